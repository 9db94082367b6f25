/- Functions of the program, as the evaluator tells them: printed by a program of ours. -/
import Derived.Test.YtkgeojjgcffebaaExactNextPlacesFS
import Derived.Test.YtkgeojjgcffebaaExactNextPlacesF0
set_option linter.unusedVariables false
set_option linter.unusedSimpArgs false
set_option maxRecDepth 20000
namespace Go.Eng
open Go.Proofs
/-! slices.siftDownOrdered[int] -/
noncomputable def slices_siftDownOrdered_L0_K (n1 : Int) (n2 : Int) (l0 : List Int) (n3 : Int) {ρ : Type} (A : List Int × Int → Option ρ) (X : List Int → Option ρ) (R : List Int → Option ρ) : Option ρ :=
  cond (decide ((w64 ((w64 (2 * n3)) + 1)) ≥ n1))
    (X l0)
    (cond ((decide ((w64 ((w64 ((w64 (2 * n3)) + 1)) + 1)) < n1)) == true)
      (cond (decide (0 ≤ (w64 (n2 + (w64 ((w64 (2 * n3)) + 1)))))) (cond (decide ((w64 (n2 + (w64 ((w64 (2 * n3)) + 1)))) < (((l0.length : Nat) : Int)))) (cond (decide (0 ≤ (w64 ((w64 (n2 + (w64 ((w64 (2 * n3)) + 1)))) + 1)))) (cond (decide ((w64 ((w64 (n2 + (w64 ((w64 (2 * n3)) + 1)))) + 1)) < (((l0.length : Nat) : Int)))) (Option.bind (cmp_Less (List.getD l0 ((w64 (n2 + (w64 ((w64 (2 * n3)) + 1)))).toNat) 0) (List.getD l0 ((w64 ((w64 (n2 + (w64 ((w64 (2 * n3)) + 1)))) + 1)).toNat) 0)) fun r1 =>
      cond r1
        (cond (decide (0 ≤ (w64 (n2 + n3)))) (cond (decide ((w64 (n2 + n3)) < (((l0.length : Nat) : Int)))) (cond (decide (0 ≤ (w64 (n2 + (w64 ((w64 ((w64 (2 * n3)) + 1)) + 1)))))) (cond (decide ((w64 (n2 + (w64 ((w64 ((w64 (2 * n3)) + 1)) + 1)))) < (((l0.length : Nat) : Int)))) (Option.bind (cmp_Less (List.getD l0 ((w64 (n2 + n3)).toNat) 0) (List.getD l0 ((w64 (n2 + (w64 ((w64 ((w64 (2 * n3)) + 1)) + 1)))).toNat) 0)) fun r2 =>
        cond (!r2)
          (R l0)
          (cond (decide (0 ≤ (w64 (n2 + (w64 ((w64 ((w64 (2 * n3)) + 1)) + 1)))))) (cond (decide ((w64 (n2 + (w64 ((w64 ((w64 (2 * n3)) + 1)) + 1)))) < (((l0.length : Nat) : Int)))) (cond (decide (0 ≤ (w64 (n2 + n3)))) (cond (decide ((w64 (n2 + n3)) < (((l0.length : Nat) : Int)))) (cond (decide (0 ≤ (w64 (n2 + n3)))) (cond (decide ((w64 (n2 + n3)) < (((l0.length : Nat) : Int)))) (cond (decide (0 ≤ (w64 (n2 + (w64 ((w64 ((w64 (2 * n3)) + 1)) + 1)))))) (cond (decide ((w64 (n2 + (w64 ((w64 ((w64 (2 * n3)) + 1)) + 1)))) < ((((List.set l0 ((w64 (n2 + n3)).toNat) (List.getD l0 ((w64 (n2 + (w64 ((w64 ((w64 (2 * n3)) + 1)) + 1)))).toNat) 0)).length : Nat) : Int)))) (A (List.set (List.set l0 ((w64 (n2 + n3)).toNat) (List.getD l0 ((w64 (n2 + (w64 ((w64 ((w64 (2 * n3)) + 1)) + 1)))).toNat) 0)) ((w64 (n2 + (w64 ((w64 ((w64 (2 * n3)) + 1)) + 1)))).toNat) (List.getD l0 ((w64 (n2 + n3)).toNat) 0), w64 ((w64 ((w64 (2 * n3)) + 1)) + 1))) none) none) none) none) none) none) none) none)) none) none) none) none)
        (cond (decide (0 ≤ (w64 (n2 + n3)))) (cond (decide ((w64 (n2 + n3)) < (((l0.length : Nat) : Int)))) (cond (decide (0 ≤ (w64 (n2 + (w64 ((w64 (2 * n3)) + 1)))))) (cond (decide ((w64 (n2 + (w64 ((w64 (2 * n3)) + 1)))) < (((l0.length : Nat) : Int)))) (Option.bind (cmp_Less (List.getD l0 ((w64 (n2 + n3)).toNat) 0) (List.getD l0 ((w64 (n2 + (w64 ((w64 (2 * n3)) + 1)))).toNat) 0)) fun r3 =>
        cond (!r3)
          (R l0)
          (cond (decide (0 ≤ (w64 (n2 + (w64 ((w64 (2 * n3)) + 1)))))) (cond (decide ((w64 (n2 + (w64 ((w64 (2 * n3)) + 1)))) < (((l0.length : Nat) : Int)))) (cond (decide (0 ≤ (w64 (n2 + n3)))) (cond (decide ((w64 (n2 + n3)) < (((l0.length : Nat) : Int)))) (cond (decide (0 ≤ (w64 (n2 + n3)))) (cond (decide ((w64 (n2 + n3)) < (((l0.length : Nat) : Int)))) (cond (decide (0 ≤ (w64 (n2 + (w64 ((w64 (2 * n3)) + 1)))))) (cond (decide ((w64 (n2 + (w64 ((w64 (2 * n3)) + 1)))) < ((((List.set l0 ((w64 (n2 + n3)).toNat) (List.getD l0 ((w64 (n2 + (w64 ((w64 (2 * n3)) + 1)))).toNat) 0)).length : Nat) : Int)))) (A (List.set (List.set l0 ((w64 (n2 + n3)).toNat) (List.getD l0 ((w64 (n2 + (w64 ((w64 (2 * n3)) + 1)))).toNat) 0)) ((w64 (n2 + (w64 ((w64 (2 * n3)) + 1)))).toNat) (List.getD l0 ((w64 (n2 + n3)).toNat) 0), w64 ((w64 (2 * n3)) + 1))) none) none) none) none) none) none) none) none)) none) none) none) none)) none) none) none) none)
      (cond (decide (0 ≤ (w64 (n2 + n3)))) (cond (decide ((w64 (n2 + n3)) < (((l0.length : Nat) : Int)))) (cond (decide (0 ≤ (w64 (n2 + (w64 ((w64 (2 * n3)) + 1)))))) (cond (decide ((w64 (n2 + (w64 ((w64 (2 * n3)) + 1)))) < (((l0.length : Nat) : Int)))) (Option.bind (cmp_Less (List.getD l0 ((w64 (n2 + n3)).toNat) 0) (List.getD l0 ((w64 (n2 + (w64 ((w64 (2 * n3)) + 1)))).toNat) 0)) fun r4 =>
      cond (!r4)
        (R l0)
        (cond (decide (0 ≤ (w64 (n2 + (w64 ((w64 (2 * n3)) + 1)))))) (cond (decide ((w64 (n2 + (w64 ((w64 (2 * n3)) + 1)))) < (((l0.length : Nat) : Int)))) (cond (decide (0 ≤ (w64 (n2 + n3)))) (cond (decide ((w64 (n2 + n3)) < (((l0.length : Nat) : Int)))) (cond (decide (0 ≤ (w64 (n2 + n3)))) (cond (decide ((w64 (n2 + n3)) < (((l0.length : Nat) : Int)))) (cond (decide (0 ≤ (w64 (n2 + (w64 ((w64 (2 * n3)) + 1)))))) (cond (decide ((w64 (n2 + (w64 ((w64 (2 * n3)) + 1)))) < ((((List.set l0 ((w64 (n2 + n3)).toNat) (List.getD l0 ((w64 (n2 + (w64 ((w64 (2 * n3)) + 1)))).toNat) 0)).length : Nat) : Int)))) (A (List.set (List.set l0 ((w64 (n2 + n3)).toNat) (List.getD l0 ((w64 (n2 + (w64 ((w64 (2 * n3)) + 1)))).toNat) 0)) ((w64 (n2 + (w64 ((w64 (2 * n3)) + 1)))).toNat) (List.getD l0 ((w64 (n2 + n3)).toNat) 0), w64 ((w64 (2 * n3)) + 1))) none) none) none) none) none) none) none) none)) none) none) none) none))
noncomputable def slices_siftDownOrdered_L0_step (n1 : Int) (n2 : Int) (s : List Int × Int) : Option (Rnd (List Int × Int) (List Int) (List Int)) := slices_siftDownOrdered_L0_K n1 n2 (s.1) (s.2) (fun s => some (.again s)) (fun t => some (.exit t)) (fun k => some (.ret k))
theorem slices_siftDownOrdered_L0_bind (n1 : Int) (n2 : Int) (s : List Int × Int) {ρ : Type} (A : List Int × Int → Option ρ) (X : List Int → Option ρ) (R : List Int → Option ρ) : slices_siftDownOrdered_L0_K n1 n2 (s.1) (s.2) A X R = (slices_siftDownOrdered_L0_step n1 n2 s).bind (rndE A X R) := by
  simp only [slices_siftDownOrdered_L0_step, slices_siftDownOrdered_L0_K, Option.bind_assoc, Option.bind_some, Option.bind_none, cond_bind, sumK_bind, rndE_again, rndE_exit, rndE_ret]
def slices_siftDownOrdered_L0_st (p : Int × Int) (s : List Int × Int) : List V × Heap Row := ([.c (.sl 0 0), .c (.int .i64 (p.1)), .c (.int .i64 (p.2)), .c (.int .i64 (s.2))], [⟨.row ⟨.int, s.1⟩, 0, 2⟩])
def slices_siftDownOrdered_L0_so (p : Int × Int) (t : List Int) : List V × Heap Row := ([], [⟨.row ⟨.int, t⟩, 0, 2⟩])
def slices_siftDownOrdered_L0_sr (p : Int × Int) (k : List Int) : List V × Heap Row := ([], [⟨.row ⟨.int, k⟩, 0, 2⟩])
def slices_siftDownOrdered_L0_D : List V → Heap Row → Option ((Int × Int) × (List Int × Int))
  | [.c (.sl 0 0), .c (.int .i64 v1), .c (.int .i64 v2), .c (.int .i64 v3)], [⟨.row ⟨.int, v4⟩, 0, 2⟩] => some ((v1, v2), (v4, v3))
  | _, _ => none
theorem slices_siftDownOrdered_L0_D_ok (vs : List V) (L : Heap Row) (p : Int × Int) (s : List Int × Int) (h : slices_siftDownOrdered_L0_D vs L = some (p, s)) : slices_siftDownOrdered_L0_st p s = (vs, L) := by
  unfold slices_siftDownOrdered_L0_D at h
  split at h
  · simp at h; obtain ⟨rfl, rfl⟩ := h; rfl
  · simp at h
noncomputable def slices_siftDownOrdered_L0_H : LoopH Row := loopR [0, 2, 3, 8] [] slices_siftDownOrdered_L0_D (fun p => slices_siftDownOrdered_L0_step (p.1) (p.2)) slices_siftDownOrdered_L0_so slices_siftDownOrdered_L0_sr
theorem slices_siftDownOrdered_L0_nf (p : Int × Int) (s : List Int × Int) (ρ : Type) (again Kx Kr : List V → Heap Row → Option ρ) : evRound rowU (envOf 296 1 [(266, cmp_Less_C)] [(0, slices_siftDownOrdered_L0_H)]) 0 slices_siftDownOrdered_L0_H (loopC 296 0) again (slices_siftDownOrdered_L0_st p s).1 (slices_siftDownOrdered_L0_st p s).2 Kx Kr = slices_siftDownOrdered_L0_K (p.1) (p.2) (s.1) (s.2) (fun s => again (slices_siftDownOrdered_L0_st p s).1 (slices_siftDownOrdered_L0_st p s).2) (fun t => Kx (slices_siftDownOrdered_L0_so p t).1 (slices_siftDownOrdered_L0_so p t).2) (fun k => Kr (slices_siftDownOrdered_L0_sr p k).1 (slices_siftDownOrdered_L0_sr p k).2) := by kernel_rfl
theorem slices_siftDownOrdered_L0_ok (hb : LoopsOk Try.prog rowU (envOf 296 1 [(266, cmp_Less_C)] [(0, slices_siftDownOrdered_L0_H)]) (loopAt (codeP 296) 0)) : LoopOk Try.prog rowU (envOf 296 1 [(266, cmp_Less_C)] [(0, slices_siftDownOrdered_L0_H)]) 0 (loopAt (codeP 296) 0) slices_siftDownOrdered_L0_H :=
  loopR_ok tagOk mixed envNl (envT (TabOk.cons cmp_Less_ok TabOk.nil)) hb slices_siftDownOrdered_L0_st slices_siftDownOrdered_L0_D_ok fun p s ρ A Kx Kr => (slices_siftDownOrdered_L0_nf p s ρ A Kx Kr).trans (slices_siftDownOrdered_L0_bind (p.1) (p.2) s _ _ _)
noncomputable def slices_siftDownOrdered_K (x0 : List Int) (x1 : Int) (x2 : Int) (x3 : Int) {ρ : Type} (K : List Int → Option ρ) : Option ρ :=
  Option.bind (runL (slices_siftDownOrdered_L0_step x2 x3) (x0, x1)) fun ot5 => sumK ot5
    (fun t5 => K t5)
    (fun k6 => K k6)
noncomputable def slices_siftDownOrdered (x0 : List Int) (x1 : Int) (x2 : Int) (x3 : Int) : Option (List Int) := slices_siftDownOrdered_K x0 x1 x2 x3 some
theorem slices_siftDownOrdered_bind (x0 : List Int) (x1 : Int) (x2 : Int) (x3 : Int) {ρ : Type} (K : List Int → Option ρ) : slices_siftDownOrdered_K x0 x1 x2 x3 K = (slices_siftDownOrdered x0 x1 x2 x3).bind K := by
  simp only [slices_siftDownOrdered, slices_siftDownOrdered_K, Option.bind_assoc, Option.bind_some, Option.bind_none, cond_bind, sumK_bind]
noncomputable def slices_siftDownOrdered_E : Env Row := envN false 296 1 [(266, cmp_Less_C)] [(0, slices_siftDownOrdered_L0_H)]
theorem slices_siftDownOrdered_nf (x0 : List Int) (x1 : Int) (x2 : Int) (x3 : Int) (ρ : Type) (K : V → Heap Row → Option ρ) : evBody rowU slices_siftDownOrdered_E (bodyC 296) [.c (.sl 0 0), .c (.int .i64 x1), .c (.int .i64 x2), .c (.int .i64 x3)] [⟨.row ⟨.int, x0⟩, 0, 2⟩] K = slices_siftDownOrdered_K x0 x1 x2 x3 (fun r => K (.t []) [⟨.row ⟨.int, r⟩, 0, 2⟩]) := by kernel_rfl
def slices_siftDownOrdered_D : List V → Heap Row → Option (List Int × Int × Int × Int)
  | [.c (.sl 0 0), .c (.int .i64 v1), .c (.int .i64 v2), .c (.int .i64 v3)], [⟨.row ⟨.int, v4⟩, 0, 2⟩] => some (v4, v1, v2, v3)
  | _, _ => none
theorem slices_siftDownOrdered_D_ok {vs : List V} {W : Heap Row} {a : List Int × Int × Int × Int} (h : slices_siftDownOrdered_D vs W = some a) : vs = [.c (.sl 0 0), .c (.int .i64 (a.2.1)), .c (.int .i64 (a.2.2.1)), .c (.int .i64 (a.2.2.2))] ∧ W = [⟨.row ⟨.int, a.1⟩, 0, 2⟩] := by
  unfold slices_siftDownOrdered_D at h
  split at h
  · simp at h; subst h; exact ⟨rfl, rfl⟩
  · simp at h
noncomputable def slices_siftDownOrdered_C : Callee Row := ⟨[(true, 0)], fun _ vs W K => (slices_siftDownOrdered_D vs W).bind fun a => (slices_siftDownOrdered a.1 a.2.1 a.2.2.1 a.2.2.2).bind fun r => K (.t []) [⟨.row ⟨.int, r⟩, 0, 2⟩]⟩
theorem slices_siftDownOrdered_ok : CalleeOk Try.prog rowU 296 slices_siftDownOrdered_C := by
  refine calleeP (nl := false) (m0 := 1) (T := [(266, cmp_Less_C)]) (H := [(0, slices_siftDownOrdered_L0_H)]) (TabOk.cons cmp_Less_ok TabOk.nil) (by kernel_rfl) (by kernel_rfl) (fun p hp hb => by
    simp only [List.mem_cons, List.not_mem_nil, or_false] at hp
    subst hp
    exact slices_siftDownOrdered_L0_ok hb) fun ρ vs W K r h => ?_
  obtain ⟨a, ha, h1⟩ := Option.bind_eq_some_iff.1 h
  clear h
  obtain ⟨rfl, rfl⟩ := slices_siftDownOrdered_D_ok ha
  obtain ⟨q, hq, h2⟩ := Option.bind_eq_some_iff.1 h1
  exact ⟨_, _, h2, (slices_siftDownOrdered_nf (a.1) (a.2.1) (a.2.2.1) (a.2.2.2) _ _).trans ((slices_siftDownOrdered_bind (a.1) (a.2.1) (a.2.2.1) (a.2.2.2) _).trans (by rw [hq]; rfl))⟩
/-! slices.heapSortOrdered[int] -/
noncomputable def slices_heapSortOrdered_L0_K (n1 : Int) (n3 : Int) (l0 : List Int) (n4 : Int) {ρ : Type} (A : List Int × Int → Option ρ) (X : List Int → Option ρ) (R : Unit → Option ρ) : Option ρ :=
  cond (decide (n4 ≥ 0))
    (Option.bind (slices_siftDownOrdered l0 n4 n3 n1) fun r1 =>
    A (r1, w64 (n4 - 1)))
    (X l0)
noncomputable def slices_heapSortOrdered_L0_step (n1 : Int) (n3 : Int) (s : List Int × Int) : Option (Rnd (List Int × Int) (List Int) (Unit)) := slices_heapSortOrdered_L0_K n1 n3 (s.1) (s.2) (fun s => some (.again s)) (fun t => some (.exit t)) (fun k => some (.ret k))
theorem slices_heapSortOrdered_L0_bind (n1 : Int) (n3 : Int) (s : List Int × Int) {ρ : Type} (A : List Int × Int → Option ρ) (X : List Int → Option ρ) (R : Unit → Option ρ) : slices_heapSortOrdered_L0_K n1 n3 (s.1) (s.2) A X R = (slices_heapSortOrdered_L0_step n1 n3 s).bind (rndE A X R) := by
  simp only [slices_heapSortOrdered_L0_step, slices_heapSortOrdered_L0_K, Option.bind_assoc, Option.bind_some, Option.bind_none, cond_bind, sumK_bind, rndE_again, rndE_exit, rndE_ret]
def slices_heapSortOrdered_L0_st (p : Int × Int) (s : List Int × Int) : List V × Heap Row := ([.c (.sl 0 0), .c (.int .i64 (p.1)), .c (.int .i64 0), .c (.int .i64 (p.2)), .c (.int .i64 (s.2))], [⟨.row ⟨.int, s.1⟩, 0, 2⟩])
def slices_heapSortOrdered_L0_so (p : Int × Int) (t : List Int) : List V × Heap Row := ([.c (.sl 0 0), .c (.int .i64 (p.1)), .c (.int .i64 0), .c (.int .i64 (p.2))], [⟨.row ⟨.int, t⟩, 0, 2⟩])
def slices_heapSortOrdered_L0_D : List V → Heap Row → Option ((Int × Int) × (List Int × Int))
  | [.c (.sl 0 0), .c (.int .i64 v1), .c (.int .i64 0), .c (.int .i64 v2), .c (.int .i64 v3)], [⟨.row ⟨.int, v4⟩, 0, 2⟩] => some ((v1, v2), (v4, v3))
  | _, _ => none
theorem slices_heapSortOrdered_L0_D_ok (vs : List V) (L : Heap Row) (p : Int × Int) (s : List Int × Int) (h : slices_heapSortOrdered_L0_D vs L = some (p, s)) : slices_heapSortOrdered_L0_st p s = (vs, L) := by
  unfold slices_heapSortOrdered_L0_D at h
  split at h
  · simp at h; obtain ⟨rfl, rfl⟩ := h; rfl
  · simp at h
noncomputable def slices_heapSortOrdered_L0_H : LoopH Row := loopX [0, 6, 7, 8, 9] [0, 6, 7, 8] slices_heapSortOrdered_L0_D (fun p => slices_heapSortOrdered_L0_step (p.1) (p.2)) slices_heapSortOrdered_L0_so
noncomputable def slices_heapSortOrdered_L2_K (n1 : Int) (l0 : List Int) (n3 : Int) {ρ : Type} (A : List Int × Int → Option ρ) (X : List Int → Option ρ) (R : Unit → Option ρ) : Option ρ :=
  cond (decide (n3 ≥ 0))
    (cond (decide (0 ≤ (w64 (n1 + n3)))) (cond (decide ((w64 (n1 + n3)) < (((l0.length : Nat) : Int)))) (cond (decide (0 ≤ n1)) (cond (decide (n1 < (((l0.length : Nat) : Int)))) (cond (decide (0 ≤ n1)) (cond (decide (n1 < (((l0.length : Nat) : Int)))) (cond (decide (0 ≤ (w64 (n1 + n3)))) (cond (decide ((w64 (n1 + n3)) < ((((List.set l0 (n1.toNat) (List.getD l0 ((w64 (n1 + n3)).toNat) 0)).length : Nat) : Int)))) (Option.bind (slices_siftDownOrdered (List.set (List.set l0 (n1.toNat) (List.getD l0 ((w64 (n1 + n3)).toNat) 0)) ((w64 (n1 + n3)).toNat) (List.getD l0 (n1.toNat) 0)) 0 n3 n1) fun r3 =>
    A (r3, w64 (n3 - 1))) none) none) none) none) none) none) none) none)
    (X l0)
noncomputable def slices_heapSortOrdered_L2_step (n1 : Int) (s : List Int × Int) : Option (Rnd (List Int × Int) (List Int) (Unit)) := slices_heapSortOrdered_L2_K n1 (s.1) (s.2) (fun s => some (.again s)) (fun t => some (.exit t)) (fun k => some (.ret k))
theorem slices_heapSortOrdered_L2_bind (n1 : Int) (s : List Int × Int) {ρ : Type} (A : List Int × Int → Option ρ) (X : List Int → Option ρ) (R : Unit → Option ρ) : slices_heapSortOrdered_L2_K n1 (s.1) (s.2) A X R = (slices_heapSortOrdered_L2_step n1 s).bind (rndE A X R) := by
  simp only [slices_heapSortOrdered_L2_step, slices_heapSortOrdered_L2_K, Option.bind_assoc, Option.bind_some, Option.bind_none, cond_bind, sumK_bind, rndE_again, rndE_exit, rndE_ret]
def slices_heapSortOrdered_L2_st (p : Int) (s : List Int × Int) : List V × Heap Row := ([.c (.sl 0 0), .c (.int .i64 (p)), .c (.int .i64 0), .c (.int .i64 (s.2))], [⟨.row ⟨.int, s.1⟩, 0, 2⟩])
def slices_heapSortOrdered_L2_so (p : Int) (t : List Int) : List V × Heap Row := ([], [⟨.row ⟨.int, t⟩, 0, 2⟩])
def slices_heapSortOrdered_L2_D : List V → Heap Row → Option ((Int) × (List Int × Int))
  | [.c (.sl 0 0), .c (.int .i64 v1), .c (.int .i64 0), .c (.int .i64 v2)], [⟨.row ⟨.int, v3⟩, 0, 2⟩] => some ((v1), (v3, v2))
  | _, _ => none
theorem slices_heapSortOrdered_L2_D_ok (vs : List V) (L : Heap Row) (p : Int) (s : List Int × Int) (h : slices_heapSortOrdered_L2_D vs L = some (p, s)) : slices_heapSortOrdered_L2_st p s = (vs, L) := by
  unfold slices_heapSortOrdered_L2_D at h
  split at h
  · simp at h; obtain ⟨rfl, rfl⟩ := h; rfl
  · simp at h
noncomputable def slices_heapSortOrdered_L2_H : LoopH Row := loopX [0, 6, 7, 10] [] slices_heapSortOrdered_L2_D (fun p => slices_heapSortOrdered_L2_step p) slices_heapSortOrdered_L2_so
theorem slices_heapSortOrdered_L0_nf (p : Int × Int) (s : List Int × Int) (ρ : Type) (again Kx Kr : List V → Heap Row → Option ρ) : evRound rowU (envOf 261 1 [(296, slices_siftDownOrdered_C)] [(0, slices_heapSortOrdered_L0_H), (2, slices_heapSortOrdered_L2_H)]) 0 slices_heapSortOrdered_L0_H (loopC 261 0) again (slices_heapSortOrdered_L0_st p s).1 (slices_heapSortOrdered_L0_st p s).2 Kx Kr = slices_heapSortOrdered_L0_K (p.1) (p.2) (s.1) (s.2) (fun s => again (slices_heapSortOrdered_L0_st p s).1 (slices_heapSortOrdered_L0_st p s).2) (fun t => Kx (slices_heapSortOrdered_L0_so p t).1 (slices_heapSortOrdered_L0_so p t).2) (fun _ => none) := by kernel_rfl
theorem slices_heapSortOrdered_L0_ok (hb : LoopsOk Try.prog rowU (envOf 261 1 [(296, slices_siftDownOrdered_C)] [(0, slices_heapSortOrdered_L0_H), (2, slices_heapSortOrdered_L2_H)]) (loopAt (codeP 261) 0)) : LoopOk Try.prog rowU (envOf 261 1 [(296, slices_siftDownOrdered_C)] [(0, slices_heapSortOrdered_L0_H), (2, slices_heapSortOrdered_L2_H)]) 0 (loopAt (codeP 261) 0) slices_heapSortOrdered_L0_H :=
  loopX_ok tagOk mixed envNl (envT (TabOk.cons slices_siftDownOrdered_ok TabOk.nil)) hb slices_heapSortOrdered_L0_st slices_heapSortOrdered_L0_D_ok fun p s ρ A Kx Kr => (slices_heapSortOrdered_L0_nf p s ρ A Kx Kr).trans (slices_heapSortOrdered_L0_bind (p.1) (p.2) s _ _ _)
theorem slices_heapSortOrdered_L2_nf (p : Int) (s : List Int × Int) (ρ : Type) (again Kx Kr : List V → Heap Row → Option ρ) : evRound rowU (envOf 261 1 [(296, slices_siftDownOrdered_C)] [(0, slices_heapSortOrdered_L0_H), (2, slices_heapSortOrdered_L2_H)]) 2 slices_heapSortOrdered_L2_H (loopC 261 2) again (slices_heapSortOrdered_L2_st p s).1 (slices_heapSortOrdered_L2_st p s).2 Kx Kr = slices_heapSortOrdered_L2_K p (s.1) (s.2) (fun s => again (slices_heapSortOrdered_L2_st p s).1 (slices_heapSortOrdered_L2_st p s).2) (fun t => Kx (slices_heapSortOrdered_L2_so p t).1 (slices_heapSortOrdered_L2_so p t).2) (fun _ => none) := by kernel_rfl
theorem slices_heapSortOrdered_L2_ok (hb : LoopsOk Try.prog rowU (envOf 261 1 [(296, slices_siftDownOrdered_C)] [(0, slices_heapSortOrdered_L0_H), (2, slices_heapSortOrdered_L2_H)]) (loopAt (codeP 261) 2)) : LoopOk Try.prog rowU (envOf 261 1 [(296, slices_siftDownOrdered_C)] [(0, slices_heapSortOrdered_L0_H), (2, slices_heapSortOrdered_L2_H)]) 2 (loopAt (codeP 261) 2) slices_heapSortOrdered_L2_H :=
  loopX_ok tagOk mixed envNl (envT (TabOk.cons slices_siftDownOrdered_ok TabOk.nil)) hb slices_heapSortOrdered_L2_st slices_heapSortOrdered_L2_D_ok fun p s ρ A Kx Kr => (slices_heapSortOrdered_L2_nf p s ρ A Kx Kr).trans (slices_heapSortOrdered_L2_bind p s _ _ _)
noncomputable def slices_heapSortOrdered_K (x0 : List Int) (x1 : Int) (x2 : Int) {ρ : Type} (K : List Int → Option ρ) : Option ρ :=
  Option.bind (runX (slices_heapSortOrdered_L0_step x1 (w64 (x2 - x1))) (x0, w64 (Int.tdiv (w64 ((w64 (x2 - x1)) - 1)) 2))) fun t2 =>
  Option.bind (runX (slices_heapSortOrdered_L2_step x1) (t2, w64 ((w64 (x2 - x1)) - 1))) fun t4 =>
  K t4
noncomputable def slices_heapSortOrdered (x0 : List Int) (x1 : Int) (x2 : Int) : Option (List Int) := slices_heapSortOrdered_K x0 x1 x2 some
theorem slices_heapSortOrdered_bind (x0 : List Int) (x1 : Int) (x2 : Int) {ρ : Type} (K : List Int → Option ρ) : slices_heapSortOrdered_K x0 x1 x2 K = (slices_heapSortOrdered x0 x1 x2).bind K := by
  simp only [slices_heapSortOrdered, slices_heapSortOrdered_K, Option.bind_assoc, Option.bind_some, Option.bind_none, cond_bind, sumK_bind]
noncomputable def slices_heapSortOrdered_E : Env Row := envN false 261 1 [(296, slices_siftDownOrdered_C)] [(0, slices_heapSortOrdered_L0_H), (2, slices_heapSortOrdered_L2_H)]
theorem slices_heapSortOrdered_nf (x0 : List Int) (x1 : Int) (x2 : Int) (ρ : Type) (K : V → Heap Row → Option ρ) : evBody rowU slices_heapSortOrdered_E (bodyC 261) [.c (.sl 0 0), .c (.int .i64 x1), .c (.int .i64 x2)] [⟨.row ⟨.int, x0⟩, 0, 2⟩] K = slices_heapSortOrdered_K x0 x1 x2 (fun r => K (.t []) [⟨.row ⟨.int, r⟩, 0, 2⟩]) := by kernel_rfl
def slices_heapSortOrdered_D : List V → Heap Row → Option (List Int × Int × Int)
  | [.c (.sl 0 0), .c (.int .i64 v1), .c (.int .i64 v2)], [⟨.row ⟨.int, v3⟩, 0, 2⟩] => some (v3, v1, v2)
  | _, _ => none
theorem slices_heapSortOrdered_D_ok {vs : List V} {W : Heap Row} {a : List Int × Int × Int} (h : slices_heapSortOrdered_D vs W = some a) : vs = [.c (.sl 0 0), .c (.int .i64 (a.2.1)), .c (.int .i64 (a.2.2))] ∧ W = [⟨.row ⟨.int, a.1⟩, 0, 2⟩] := by
  unfold slices_heapSortOrdered_D at h
  split at h
  · simp at h; subst h; exact ⟨rfl, rfl⟩
  · simp at h
noncomputable def slices_heapSortOrdered_C : Callee Row := ⟨[(true, 0)], fun _ vs W K => (slices_heapSortOrdered_D vs W).bind fun a => (slices_heapSortOrdered a.1 a.2.1 a.2.2).bind fun r => K (.t []) [⟨.row ⟨.int, r⟩, 0, 2⟩]⟩
theorem slices_heapSortOrdered_ok : CalleeOk Try.prog rowU 261 slices_heapSortOrdered_C := by
  refine calleeP (nl := false) (m0 := 1) (T := [(296, slices_siftDownOrdered_C)]) (H := [(0, slices_heapSortOrdered_L0_H), (2, slices_heapSortOrdered_L2_H)]) (TabOk.cons slices_siftDownOrdered_ok TabOk.nil) (by kernel_rfl) (by kernel_rfl) (fun p hp hb => by
    simp only [List.mem_cons, List.not_mem_nil, or_false] at hp
    rcases hp with rfl | rfl
    · exact slices_heapSortOrdered_L0_ok hb
    · exact slices_heapSortOrdered_L2_ok hb) fun ρ vs W K r h => ?_
  obtain ⟨a, ha, h1⟩ := Option.bind_eq_some_iff.1 h
  clear h
  obtain ⟨rfl, rfl⟩ := slices_heapSortOrdered_D_ok ha
  obtain ⟨q, hq, h2⟩ := Option.bind_eq_some_iff.1 h1
  exact ⟨_, _, h2, (slices_heapSortOrdered_nf (a.1) (a.2.1) (a.2.2) _ _).trans ((slices_heapSortOrdered_bind (a.1) (a.2.1) (a.2.2) _).trans (by rw [hq]; rfl))⟩
/-! slices.order2Ordered[int] -/
def slices_order2Ordered_K (x0 : List Int) (x1 : Int) (x2 : Int) (x3 : Int) {ρ : Type} (K : Int × Int × Int → Option ρ) : Option ρ :=
  cond (decide (0 ≤ x2)) (cond (decide (x2 < (((x0.length : Nat) : Int)))) (cond (decide (0 ≤ x1)) (cond (decide (x1 < (((x0.length : Nat) : Int)))) (Option.bind (cmp_Less (List.getD x0 (x2.toNat) 0) (List.getD x0 (x1.toNat) 0)) fun r1 =>
  cond r1
    (K (x2, x1, w64 (x3 + 1)))
    (K (x1, x2, x3))) none) none) none) none
def slices_order2Ordered (x0 : List Int) (x1 : Int) (x2 : Int) (x3 : Int) : Option (Int × Int × Int) := slices_order2Ordered_K x0 x1 x2 x3 some
theorem slices_order2Ordered_bind (x0 : List Int) (x1 : Int) (x2 : Int) (x3 : Int) {ρ : Type} (K : Int × Int × Int → Option ρ) : slices_order2Ordered_K x0 x1 x2 x3 K = (slices_order2Ordered x0 x1 x2 x3).bind K := by
  simp only [slices_order2Ordered, slices_order2Ordered_K, Option.bind_assoc, Option.bind_some, Option.bind_none, cond_bind, sumK_bind]
noncomputable def slices_order2Ordered_E : Env Row := envN false 313 2 [(266, cmp_Less_C)] []
theorem slices_order2Ordered_nf (x0 : List Int) (x1 : Int) (x2 : Int) (x3 : Int) (ρ : Type) (K : V → Heap Row → Option ρ) : evBody rowU slices_order2Ordered_E (bodyC 313) [.c (.sl 0 0), .c (.int .i64 x1), .c (.int .i64 x2), .c (.ptr 1 0)] [⟨.row ⟨.int, x0⟩, 0, 1⟩, ⟨.box [.int .i64 x3], 0, 2⟩] K = slices_order2Ordered_K x0 x1 x2 x3 (fun r => K (.t [(false, [.int .i64 r.1]), (false, [.int .i64 r.2.1])]) [⟨.row ⟨.int, x0⟩, 0, 1⟩, ⟨.box [.int .i64 r.2.2], 0, 2⟩]) := by kernel_rfl
def slices_order2Ordered_D : List V → Heap Row → Option (List Int × Int × Int × Int)
  | [.c (.sl 0 0), .c (.int .i64 v1), .c (.int .i64 v2), .c (.ptr 1 0)], [⟨.row ⟨.int, v3⟩, 0, 1⟩, ⟨.box [.int .i64 v4], 0, 2⟩] => some (v3, v1, v2, v4)
  | _, _ => none
theorem slices_order2Ordered_D_ok {vs : List V} {W : Heap Row} {a : List Int × Int × Int × Int} (h : slices_order2Ordered_D vs W = some a) : vs = [.c (.sl 0 0), .c (.int .i64 (a.2.1)), .c (.int .i64 (a.2.2.1)), .c (.ptr 1 0)] ∧ W = [⟨.row ⟨.int, a.1⟩, 0, 1⟩, ⟨.box [.int .i64 (a.2.2.2)], 0, 2⟩] := by
  unfold slices_order2Ordered_D at h
  split at h
  · simp at h; subst h; exact ⟨rfl, rfl⟩
  · simp at h
def slices_order2Ordered_C : Callee Row := ⟨[(false, 0), (true, 1)], fun _ vs W K => (slices_order2Ordered_D vs W).bind fun a => (slices_order2Ordered a.1 a.2.1 a.2.2.1 a.2.2.2).bind fun r => K (.t [(false, [.int .i64 r.1]), (false, [.int .i64 r.2.1])]) [⟨.row ⟨.int, a.1⟩, 0, 1⟩, ⟨.box [.int .i64 r.2.2], 0, 2⟩]⟩
theorem slices_order2Ordered_ok : CalleeOk Try.prog rowU 313 slices_order2Ordered_C := by
  refine calleeP (nl := false) (m0 := 2) (T := [(266, cmp_Less_C)]) (H := []) (TabOk.cons cmp_Less_ok TabOk.nil) (by kernel_rfl) (by kernel_rfl) (fun p hp => nomatch hp) fun ρ vs W K r h => ?_
  obtain ⟨a, ha, h1⟩ := Option.bind_eq_some_iff.1 h
  clear h
  obtain ⟨rfl, rfl⟩ := slices_order2Ordered_D_ok ha
  obtain ⟨q, hq, h2⟩ := Option.bind_eq_some_iff.1 h1
  exact ⟨_, _, h2, (slices_order2Ordered_nf (a.1) (a.2.1) (a.2.2.1) (a.2.2.2) _ _).trans ((slices_order2Ordered_bind (a.1) (a.2.1) (a.2.2.1) (a.2.2.2) _).trans (by rw [hq]; rfl))⟩
/-! slices.medianOrdered[int] -/
def slices_medianOrdered_K (x0 : List Int) (x1 : Int) (x2 : Int) (x3 : Int) (x4 : Int) {ρ : Type} (K : Int × Int → Option ρ) : Option ρ :=
  Option.bind (slices_order2Ordered x0 x1 x2 x4) fun r1 =>
  Option.bind (slices_order2Ordered x0 r1.2.1 x3 r1.2.2) fun r2 =>
  Option.bind (slices_order2Ordered x0 r1.1 r2.1 r2.2.2) fun r3 =>
  K (r3.2.1, r3.2.2)
def slices_medianOrdered (x0 : List Int) (x1 : Int) (x2 : Int) (x3 : Int) (x4 : Int) : Option (Int × Int) := slices_medianOrdered_K x0 x1 x2 x3 x4 some
theorem slices_medianOrdered_bind (x0 : List Int) (x1 : Int) (x2 : Int) (x3 : Int) (x4 : Int) {ρ : Type} (K : Int × Int → Option ρ) : slices_medianOrdered_K x0 x1 x2 x3 x4 K = (slices_medianOrdered x0 x1 x2 x3 x4).bind K := by
  simp only [slices_medianOrdered, slices_medianOrdered_K, Option.bind_assoc, Option.bind_some, Option.bind_none, cond_bind, sumK_bind]
noncomputable def slices_medianOrdered_E : Env Row := envN false 300 2 [(313, slices_order2Ordered_C)] []
theorem slices_medianOrdered_nf (x0 : List Int) (x1 : Int) (x2 : Int) (x3 : Int) (x4 : Int) (ρ : Type) (K : V → Heap Row → Option ρ) : evBody rowU slices_medianOrdered_E (bodyC 300) [.c (.sl 0 0), .c (.int .i64 x1), .c (.int .i64 x2), .c (.int .i64 x3), .c (.ptr 1 0)] [⟨.row ⟨.int, x0⟩, 0, 1⟩, ⟨.box [.int .i64 x4], 0, 2⟩] K = slices_medianOrdered_K x0 x1 x2 x3 x4 (fun r => K (.c (.int .i64 r.1)) [⟨.row ⟨.int, x0⟩, 0, 1⟩, ⟨.box [.int .i64 r.2], 0, 2⟩]) := by kernel_rfl
def slices_medianOrdered_D : List V → Heap Row → Option (List Int × Int × Int × Int × Int)
  | [.c (.sl 0 0), .c (.int .i64 v1), .c (.int .i64 v2), .c (.int .i64 v3), .c (.ptr 1 0)], [⟨.row ⟨.int, v4⟩, 0, 1⟩, ⟨.box [.int .i64 v5], 0, 2⟩] => some (v4, v1, v2, v3, v5)
  | _, _ => none
theorem slices_medianOrdered_D_ok {vs : List V} {W : Heap Row} {a : List Int × Int × Int × Int × Int} (h : slices_medianOrdered_D vs W = some a) : vs = [.c (.sl 0 0), .c (.int .i64 (a.2.1)), .c (.int .i64 (a.2.2.1)), .c (.int .i64 (a.2.2.2.1)), .c (.ptr 1 0)] ∧ W = [⟨.row ⟨.int, a.1⟩, 0, 1⟩, ⟨.box [.int .i64 (a.2.2.2.2)], 0, 2⟩] := by
  unfold slices_medianOrdered_D at h
  split at h
  · simp at h; subst h; exact ⟨rfl, rfl⟩
  · simp at h
def slices_medianOrdered_C : Callee Row := ⟨[(false, 0), (true, 1)], fun _ vs W K => (slices_medianOrdered_D vs W).bind fun a => (slices_medianOrdered a.1 a.2.1 a.2.2.1 a.2.2.2.1 a.2.2.2.2).bind fun r => K (.c (.int .i64 r.1)) [⟨.row ⟨.int, a.1⟩, 0, 1⟩, ⟨.box [.int .i64 r.2], 0, 2⟩]⟩
theorem slices_medianOrdered_ok : CalleeOk Try.prog rowU 300 slices_medianOrdered_C := by
  refine calleeP (nl := false) (m0 := 2) (T := [(313, slices_order2Ordered_C)]) (H := []) (TabOk.cons slices_order2Ordered_ok TabOk.nil) (by kernel_rfl) (by kernel_rfl) (fun p hp => nomatch hp) fun ρ vs W K r h => ?_
  obtain ⟨a, ha, h1⟩ := Option.bind_eq_some_iff.1 h
  clear h
  obtain ⟨rfl, rfl⟩ := slices_medianOrdered_D_ok ha
  obtain ⟨q, hq, h2⟩ := Option.bind_eq_some_iff.1 h1
  exact ⟨_, _, h2, (slices_medianOrdered_nf (a.1) (a.2.1) (a.2.2.1) (a.2.2.2.1) (a.2.2.2.2) _ _).trans ((slices_medianOrdered_bind (a.1) (a.2.1) (a.2.2.1) (a.2.2.2.1) (a.2.2.2.2) _).trans (by rw [hq]; rfl))⟩
/-! slices.medianAdjacentOrdered[int] -/
def slices_medianAdjacentOrdered_K (x0 : List Int) (x1 : Int) (x2 : Int) {ρ : Type} (K : Int × Int → Option ρ) : Option ρ :=
  Option.bind (slices_medianOrdered x0 (w64 (x1 - 1)) x1 (w64 (x1 + 1)) x2) fun r1 =>
  K (r1.1, r1.2)
def slices_medianAdjacentOrdered (x0 : List Int) (x1 : Int) (x2 : Int) : Option (Int × Int) := slices_medianAdjacentOrdered_K x0 x1 x2 some
theorem slices_medianAdjacentOrdered_bind (x0 : List Int) (x1 : Int) (x2 : Int) {ρ : Type} (K : Int × Int → Option ρ) : slices_medianAdjacentOrdered_K x0 x1 x2 K = (slices_medianAdjacentOrdered x0 x1 x2).bind K := by
  simp only [slices_medianAdjacentOrdered, slices_medianAdjacentOrdered_K, Option.bind_assoc, Option.bind_some, Option.bind_none, cond_bind, sumK_bind]
noncomputable def slices_medianAdjacentOrdered_E : Env Row := envN false 299 2 [(300, slices_medianOrdered_C)] []
theorem slices_medianAdjacentOrdered_nf (x0 : List Int) (x1 : Int) (x2 : Int) (ρ : Type) (K : V → Heap Row → Option ρ) : evBody rowU slices_medianAdjacentOrdered_E (bodyC 299) [.c (.sl 0 0), .c (.int .i64 x1), .c (.ptr 1 0)] [⟨.row ⟨.int, x0⟩, 0, 1⟩, ⟨.box [.int .i64 x2], 0, 2⟩] K = slices_medianAdjacentOrdered_K x0 x1 x2 (fun r => K (.c (.int .i64 r.1)) [⟨.row ⟨.int, x0⟩, 0, 1⟩, ⟨.box [.int .i64 r.2], 0, 2⟩]) := by kernel_rfl
def slices_medianAdjacentOrdered_D : List V → Heap Row → Option (List Int × Int × Int)
  | [.c (.sl 0 0), .c (.int .i64 v1), .c (.ptr 1 0)], [⟨.row ⟨.int, v2⟩, 0, 1⟩, ⟨.box [.int .i64 v3], 0, 2⟩] => some (v2, v1, v3)
  | _, _ => none
theorem slices_medianAdjacentOrdered_D_ok {vs : List V} {W : Heap Row} {a : List Int × Int × Int} (h : slices_medianAdjacentOrdered_D vs W = some a) : vs = [.c (.sl 0 0), .c (.int .i64 (a.2.1)), .c (.ptr 1 0)] ∧ W = [⟨.row ⟨.int, a.1⟩, 0, 1⟩, ⟨.box [.int .i64 (a.2.2)], 0, 2⟩] := by
  unfold slices_medianAdjacentOrdered_D at h
  split at h
  · simp at h; subst h; exact ⟨rfl, rfl⟩
  · simp at h
def slices_medianAdjacentOrdered_C : Callee Row := ⟨[(false, 0), (true, 1)], fun _ vs W K => (slices_medianAdjacentOrdered_D vs W).bind fun a => (slices_medianAdjacentOrdered a.1 a.2.1 a.2.2).bind fun r => K (.c (.int .i64 r.1)) [⟨.row ⟨.int, a.1⟩, 0, 1⟩, ⟨.box [.int .i64 r.2], 0, 2⟩]⟩
theorem slices_medianAdjacentOrdered_ok : CalleeOk Try.prog rowU 299 slices_medianAdjacentOrdered_C := by
  refine calleeP (nl := false) (m0 := 2) (T := [(300, slices_medianOrdered_C)]) (H := []) (TabOk.cons slices_medianOrdered_ok TabOk.nil) (by kernel_rfl) (by kernel_rfl) (fun p hp => nomatch hp) fun ρ vs W K r h => ?_
  obtain ⟨a, ha, h1⟩ := Option.bind_eq_some_iff.1 h
  clear h
  obtain ⟨rfl, rfl⟩ := slices_medianAdjacentOrdered_D_ok ha
  obtain ⟨q, hq, h2⟩ := Option.bind_eq_some_iff.1 h1
  exact ⟨_, _, h2, (slices_medianAdjacentOrdered_nf (a.1) (a.2.1) (a.2.2) _ _).trans ((slices_medianAdjacentOrdered_bind (a.1) (a.2.1) (a.2.2) _).trans (by rw [hq]; rfl))⟩
/-! slices.choosePivotOrdered[int] -/
def slices_choosePivotOrdered_K (x0 : List Int) (x1 : Int) (x2 : Int) {ρ : Type} (K : Int × Int → Option ρ) : Option ρ :=
  cond (decide ((w64 (x2 - x1)) ≥ 8))
    (cond (decide ((w64 (x2 - x1)) ≥ 50))
      (Option.bind (slices_medianAdjacentOrdered x0 (w64 (x1 + (w64 ((w64 (Int.tdiv (w64 (x2 - x1)) 4)) * 1)))) 0) fun r1 =>
      Option.bind (slices_medianAdjacentOrdered x0 (w64 (x1 + (w64 ((w64 (Int.tdiv (w64 (x2 - x1)) 4)) * 2)))) r1.2) fun r2 =>
      Option.bind (slices_medianAdjacentOrdered x0 (w64 (x1 + (w64 ((w64 (Int.tdiv (w64 (x2 - x1)) 4)) * 3)))) r2.2) fun r3 =>
      Option.bind (slices_medianOrdered x0 r1.1 r2.1 r3.1 r3.2) fun r4 =>
      cond (r4.2 == 0)
        (K (r4.1, 1))
        (cond (r4.2 == 12)
          (K (r4.1, 2))
          (K (r4.1, 0))))
      (Option.bind (slices_medianOrdered x0 (w64 (x1 + (w64 ((w64 (Int.tdiv (w64 (x2 - x1)) 4)) * 1)))) (w64 (x1 + (w64 ((w64 (Int.tdiv (w64 (x2 - x1)) 4)) * 2)))) (w64 (x1 + (w64 ((w64 (Int.tdiv (w64 (x2 - x1)) 4)) * 3)))) 0) fun r5 =>
      cond (r5.2 == 0)
        (K (r5.1, 1))
        (cond (r5.2 == 12)
          (K (r5.1, 2))
          (K (r5.1, 0)))))
    (K (w64 (x1 + (w64 ((w64 (Int.tdiv (w64 (x2 - x1)) 4)) * 2))), 1))
def slices_choosePivotOrdered (x0 : List Int) (x1 : Int) (x2 : Int) : Option (Int × Int) := slices_choosePivotOrdered_K x0 x1 x2 some
theorem slices_choosePivotOrdered_bind (x0 : List Int) (x1 : Int) (x2 : Int) {ρ : Type} (K : Int × Int → Option ρ) : slices_choosePivotOrdered_K x0 x1 x2 K = (slices_choosePivotOrdered x0 x1 x2).bind K := by
  simp only [slices_choosePivotOrdered, slices_choosePivotOrdered_K, Option.bind_assoc, Option.bind_some, Option.bind_none, cond_bind, sumK_bind]
noncomputable def slices_choosePivotOrdered_E : Env Row := envN false 263 1 [(300, slices_medianOrdered_C), (299, slices_medianAdjacentOrdered_C)] []
theorem slices_choosePivotOrdered_nf (x0 : List Int) (x1 : Int) (x2 : Int) (ρ : Type) (K : V → Heap Row → Option ρ) : evBody rowU slices_choosePivotOrdered_E (bodyC 263) [.c (.sl 0 0), .c (.int .i64 x1), .c (.int .i64 x2)] [⟨.row ⟨.int, x0⟩, 0, 1⟩] K = slices_choosePivotOrdered_K x0 x1 x2 (fun r => K (.t [(false, [.int .i64 r.1]), (false, [.int .i64 r.2])]) [⟨.row ⟨.int, x0⟩, 0, 1⟩]) := by kernel_rfl
def slices_choosePivotOrdered_D : List V → Heap Row → Option (List Int × Int × Int)
  | [.c (.sl 0 0), .c (.int .i64 v1), .c (.int .i64 v2)], [⟨.row ⟨.int, v3⟩, 0, 1⟩] => some (v3, v1, v2)
  | _, _ => none
theorem slices_choosePivotOrdered_D_ok {vs : List V} {W : Heap Row} {a : List Int × Int × Int} (h : slices_choosePivotOrdered_D vs W = some a) : vs = [.c (.sl 0 0), .c (.int .i64 (a.2.1)), .c (.int .i64 (a.2.2))] ∧ W = [⟨.row ⟨.int, a.1⟩, 0, 1⟩] := by
  unfold slices_choosePivotOrdered_D at h
  split at h
  · simp at h; subst h; exact ⟨rfl, rfl⟩
  · simp at h
def slices_choosePivotOrdered_C : Callee Row := ⟨[(false, 0)], fun _ vs W K => (slices_choosePivotOrdered_D vs W).bind fun a => (slices_choosePivotOrdered a.1 a.2.1 a.2.2).bind fun r => K (.t [(false, [.int .i64 r.1]), (false, [.int .i64 r.2])]) [⟨.row ⟨.int, a.1⟩, 0, 1⟩]⟩
theorem slices_choosePivotOrdered_ok : CalleeOk Try.prog rowU 263 slices_choosePivotOrdered_C := by
  refine calleeP (nl := false) (m0 := 1) (T := [(300, slices_medianOrdered_C), (299, slices_medianAdjacentOrdered_C)]) (H := []) (TabOk.cons slices_medianOrdered_ok (TabOk.cons slices_medianAdjacentOrdered_ok TabOk.nil)) (by kernel_rfl) (by kernel_rfl) (fun p hp => nomatch hp) fun ρ vs W K r h => ?_
  obtain ⟨a, ha, h1⟩ := Option.bind_eq_some_iff.1 h
  clear h
  obtain ⟨rfl, rfl⟩ := slices_choosePivotOrdered_D_ok ha
  obtain ⟨q, hq, h2⟩ := Option.bind_eq_some_iff.1 h1
  exact ⟨_, _, h2, (slices_choosePivotOrdered_nf (a.1) (a.2.1) (a.2.2) _ _).trans ((slices_choosePivotOrdered_bind (a.1) (a.2.1) (a.2.2) _).trans (by rw [hq]; rfl))⟩
/-! slices.reverseRangeOrdered[int] -/
noncomputable def slices_reverseRangeOrdered_L0_K  (l0 : List Int) (n1 : Int) (n2 : Int) {ρ : Type} (A : List Int × Int × Int → Option ρ) (X : List Int → Option ρ) (R : Unit → Option ρ) : Option ρ :=
  cond (decide (n1 < n2))
    (cond (decide (0 ≤ n2)) (cond (decide (n2 < (((l0.length : Nat) : Int)))) (cond (decide (0 ≤ n1)) (cond (decide (n1 < (((l0.length : Nat) : Int)))) (cond (decide (0 ≤ n1)) (cond (decide (n1 < (((l0.length : Nat) : Int)))) (cond (decide (0 ≤ n2)) (cond (decide (n2 < ((((List.set l0 (n1.toNat) (List.getD l0 (n2.toNat) 0)).length : Nat) : Int)))) (A (List.set (List.set l0 (n1.toNat) (List.getD l0 (n2.toNat) 0)) (n2.toNat) (List.getD l0 (n1.toNat) 0), w64 (n1 + 1), w64 (n2 - 1))) none) none) none) none) none) none) none) none)
    (X l0)
noncomputable def slices_reverseRangeOrdered_L0_step  (s : List Int × Int × Int) : Option (Rnd (List Int × Int × Int) (List Int) (Unit)) := slices_reverseRangeOrdered_L0_K  (s.1) (s.2.1) (s.2.2) (fun s => some (.again s)) (fun t => some (.exit t)) (fun k => some (.ret k))
theorem slices_reverseRangeOrdered_L0_bind  (s : List Int × Int × Int) {ρ : Type} (A : List Int × Int × Int → Option ρ) (X : List Int → Option ρ) (R : Unit → Option ρ) : slices_reverseRangeOrdered_L0_K  (s.1) (s.2.1) (s.2.2) A X R = (slices_reverseRangeOrdered_L0_step  s).bind (rndE A X R) := by
  simp only [slices_reverseRangeOrdered_L0_step, slices_reverseRangeOrdered_L0_K, Option.bind_assoc, Option.bind_some, Option.bind_none, cond_bind, sumK_bind, rndE_again, rndE_exit, rndE_ret]
def slices_reverseRangeOrdered_L0_st (p : Unit) (s : List Int × Int × Int) : List V × Heap Row := ([.c (.sl 0 0), .c (.int .i64 (s.2.1)), .c (.int .i64 (s.2.2))], [⟨.row ⟨.int, s.1⟩, 0, 2⟩])
def slices_reverseRangeOrdered_L0_so (p : Unit) (t : List Int) : List V × Heap Row := ([], [⟨.row ⟨.int, t⟩, 0, 2⟩])
def slices_reverseRangeOrdered_L0_D : List V → Heap Row → Option ((Unit) × (List Int × Int × Int))
  | [.c (.sl 0 0), .c (.int .i64 v1), .c (.int .i64 v2)], [⟨.row ⟨.int, v3⟩, 0, 2⟩] => some ((), (v3, v1, v2))
  | _, _ => none
theorem slices_reverseRangeOrdered_L0_D_ok (vs : List V) (L : Heap Row) (p : Unit) (s : List Int × Int × Int) (h : slices_reverseRangeOrdered_L0_D vs L = some (p, s)) : slices_reverseRangeOrdered_L0_st p s = (vs, L) := by
  unfold slices_reverseRangeOrdered_L0_D at h
  split at h
  · simp at h; obtain ⟨rfl, rfl⟩ := h; rfl
  · simp at h
noncomputable def slices_reverseRangeOrdered_L0_H : LoopH Row := loopX [0, 6, 7] [] slices_reverseRangeOrdered_L0_D (fun p => slices_reverseRangeOrdered_L0_step ) slices_reverseRangeOrdered_L0_so
theorem slices_reverseRangeOrdered_L0_nf (p : Unit) (s : List Int × Int × Int) (ρ : Type) (again Kx Kr : List V → Heap Row → Option ρ) : evRound rowU (envOf 264 1 [] [(0, slices_reverseRangeOrdered_L0_H)]) 0 slices_reverseRangeOrdered_L0_H (loopC 264 0) again (slices_reverseRangeOrdered_L0_st p s).1 (slices_reverseRangeOrdered_L0_st p s).2 Kx Kr = slices_reverseRangeOrdered_L0_K  (s.1) (s.2.1) (s.2.2) (fun s => again (slices_reverseRangeOrdered_L0_st p s).1 (slices_reverseRangeOrdered_L0_st p s).2) (fun t => Kx (slices_reverseRangeOrdered_L0_so p t).1 (slices_reverseRangeOrdered_L0_so p t).2) (fun _ => none) := by kernel_rfl
theorem slices_reverseRangeOrdered_L0_ok (hb : LoopsOk Try.prog rowU (envOf 264 1 [] [(0, slices_reverseRangeOrdered_L0_H)]) (loopAt (codeP 264) 0)) : LoopOk Try.prog rowU (envOf 264 1 [] [(0, slices_reverseRangeOrdered_L0_H)]) 0 (loopAt (codeP 264) 0) slices_reverseRangeOrdered_L0_H :=
  loopX_ok tagOk mixed envNl (envT TabOk.nil) hb slices_reverseRangeOrdered_L0_st slices_reverseRangeOrdered_L0_D_ok fun p s ρ A Kx Kr => (slices_reverseRangeOrdered_L0_nf p s ρ A Kx Kr).trans (slices_reverseRangeOrdered_L0_bind  s _ _ _)
noncomputable def slices_reverseRangeOrdered_K (x0 : List Int) (x1 : Int) (x2 : Int) {ρ : Type} (K : List Int → Option ρ) : Option ρ :=
  Option.bind (runX (slices_reverseRangeOrdered_L0_step) (x0, x1, w64 (x2 - 1))) fun t1 =>
  K t1
noncomputable def slices_reverseRangeOrdered (x0 : List Int) (x1 : Int) (x2 : Int) : Option (List Int) := slices_reverseRangeOrdered_K x0 x1 x2 some
theorem slices_reverseRangeOrdered_bind (x0 : List Int) (x1 : Int) (x2 : Int) {ρ : Type} (K : List Int → Option ρ) : slices_reverseRangeOrdered_K x0 x1 x2 K = (slices_reverseRangeOrdered x0 x1 x2).bind K := by
  simp only [slices_reverseRangeOrdered, slices_reverseRangeOrdered_K, Option.bind_assoc, Option.bind_some, Option.bind_none, cond_bind, sumK_bind]
noncomputable def slices_reverseRangeOrdered_E : Env Row := envN false 264 1 [] [(0, slices_reverseRangeOrdered_L0_H)]
theorem slices_reverseRangeOrdered_nf (x0 : List Int) (x1 : Int) (x2 : Int) (ρ : Type) (K : V → Heap Row → Option ρ) : evBody rowU slices_reverseRangeOrdered_E (bodyC 264) [.c (.sl 0 0), .c (.int .i64 x1), .c (.int .i64 x2)] [⟨.row ⟨.int, x0⟩, 0, 2⟩] K = slices_reverseRangeOrdered_K x0 x1 x2 (fun r => K (.t []) [⟨.row ⟨.int, r⟩, 0, 2⟩]) := by kernel_rfl
def slices_reverseRangeOrdered_D : List V → Heap Row → Option (List Int × Int × Int)
  | [.c (.sl 0 0), .c (.int .i64 v1), .c (.int .i64 v2)], [⟨.row ⟨.int, v3⟩, 0, 2⟩] => some (v3, v1, v2)
  | _, _ => none
theorem slices_reverseRangeOrdered_D_ok {vs : List V} {W : Heap Row} {a : List Int × Int × Int} (h : slices_reverseRangeOrdered_D vs W = some a) : vs = [.c (.sl 0 0), .c (.int .i64 (a.2.1)), .c (.int .i64 (a.2.2))] ∧ W = [⟨.row ⟨.int, a.1⟩, 0, 2⟩] := by
  unfold slices_reverseRangeOrdered_D at h
  split at h
  · simp at h; subst h; exact ⟨rfl, rfl⟩
  · simp at h
noncomputable def slices_reverseRangeOrdered_C : Callee Row := ⟨[(true, 0)], fun _ vs W K => (slices_reverseRangeOrdered_D vs W).bind fun a => (slices_reverseRangeOrdered a.1 a.2.1 a.2.2).bind fun r => K (.t []) [⟨.row ⟨.int, r⟩, 0, 2⟩]⟩
theorem slices_reverseRangeOrdered_ok : CalleeOk Try.prog rowU 264 slices_reverseRangeOrdered_C := by
  refine calleeP (nl := false) (m0 := 1) (T := []) (H := [(0, slices_reverseRangeOrdered_L0_H)]) TabOk.nil (by kernel_rfl) (by kernel_rfl) (fun p hp hb => by
    simp only [List.mem_cons, List.not_mem_nil, or_false] at hp
    subst hp
    exact slices_reverseRangeOrdered_L0_ok hb) fun ρ vs W K r h => ?_
  obtain ⟨a, ha, h1⟩ := Option.bind_eq_some_iff.1 h
  clear h
  obtain ⟨rfl, rfl⟩ := slices_reverseRangeOrdered_D_ok ha
  obtain ⟨q, hq, h2⟩ := Option.bind_eq_some_iff.1 h1
  exact ⟨_, _, h2, (slices_reverseRangeOrdered_nf (a.1) (a.2.1) (a.2.2) _ _).trans ((slices_reverseRangeOrdered_bind (a.1) (a.2.1) (a.2.2) _).trans (by rw [hq]; rfl))⟩
/-! slices.partialInsertionSortOrdered[int] -/
noncomputable def slices_partialInsertionSortOrdered_L2_K (l0 : List Int) (n1 : Int) (n2 : Int) (n4 : Int) (n3 : Int) {ρ : Type} (A : Int → Option ρ) (X : Int → Option ρ) (R : Unit → Option ρ) : Option ρ :=
  cond ((decide (n3 < n2)) == true)
    (cond (decide (0 ≤ n3)) (cond (decide (n3 < (((l0.length : Nat) : Int)))) (cond (decide (0 ≤ (w64 (n3 - 1)))) (cond (decide ((w64 (n3 - 1)) < (((l0.length : Nat) : Int)))) (Option.bind (cmp_Less (List.getD l0 (n3.toNat) 0) (List.getD l0 ((w64 (n3 - 1)).toNat) 0)) fun r1 =>
    cond (!r1)
      (A (w64 (n3 + 1)))
      (X n3)) none) none) none) none)
    (X n3)
noncomputable def slices_partialInsertionSortOrdered_L2_step (l0 : List Int) (n1 : Int) (n2 : Int) (n4 : Int) (s : Int) : Option (Rnd (Int) (Int) (Unit)) := slices_partialInsertionSortOrdered_L2_K l0 n1 n2 n4 s (fun s => some (.again s)) (fun t => some (.exit t)) (fun k => some (.ret k))
theorem slices_partialInsertionSortOrdered_L2_bind (l0 : List Int) (n1 : Int) (n2 : Int) (n4 : Int) (s : Int) {ρ : Type} (A : Int → Option ρ) (X : Int → Option ρ) (R : Unit → Option ρ) : slices_partialInsertionSortOrdered_L2_K l0 n1 n2 n4 s A X R = (slices_partialInsertionSortOrdered_L2_step l0 n1 n2 n4 s).bind (rndE A X R) := by
  simp only [slices_partialInsertionSortOrdered_L2_step, slices_partialInsertionSortOrdered_L2_K, Option.bind_assoc, Option.bind_some, Option.bind_none, cond_bind, sumK_bind, rndE_again, rndE_exit, rndE_ret]
def slices_partialInsertionSortOrdered_L2_st (p : List Int × Int × Int × Int) (s : Int) : List V × Heap Row := ([.c (.sl 0 0), .c (.int .i64 (p.2.1)), .c (.int .i64 (p.2.2.1)), .c (.int .i64 (s)), .c (.int .i64 (p.2.2.2))], [⟨.row ⟨.int, p.1⟩, 0, 2⟩])
def slices_partialInsertionSortOrdered_L2_so (p : List Int × Int × Int × Int) (t : Int) : List V × Heap Row := ([.c (.sl 0 0), .c (.int .i64 (p.2.1)), .c (.int .i64 (p.2.2.1)), .c (.int .i64 (t)), .c (.int .i64 (p.2.2.2))], [⟨.row ⟨.int, p.1⟩, 0, 2⟩])
def slices_partialInsertionSortOrdered_L2_D : List V → Heap Row → Option ((List Int × Int × Int × Int) × (Int))
  | [.c (.sl 0 0), .c (.int .i64 v1), .c (.int .i64 v2), .c (.int .i64 v3), .c (.int .i64 v4)], [⟨.row ⟨.int, v5⟩, 0, 2⟩] => some ((v5, v1, v2, v4), (v3))
  | _, _ => none
theorem slices_partialInsertionSortOrdered_L2_D_ok (vs : List V) (L : Heap Row) (p : List Int × Int × Int × Int) (s : Int) (h : slices_partialInsertionSortOrdered_L2_D vs L = some (p, s)) : slices_partialInsertionSortOrdered_L2_st p s = (vs, L) := by
  unfold slices_partialInsertionSortOrdered_L2_D at h
  split at h
  · simp at h; obtain ⟨rfl, rfl⟩ := h; rfl
  · simp at h
noncomputable def slices_partialInsertionSortOrdered_L2_H : LoopH Row := loopX [0, 1, 2, 7, 8] [0, 1, 2, 7, 8] slices_partialInsertionSortOrdered_L2_D (fun p => slices_partialInsertionSortOrdered_L2_step (p.1) (p.2.1) (p.2.2.1) (p.2.2.2)) slices_partialInsertionSortOrdered_L2_so
noncomputable def slices_partialInsertionSortOrdered_L4_K (n1 : Int) (n2 : Int) (n3 : Int) (n4 : Int) (l0 : List Int) (n5 : Int) {ρ : Type} (A : List Int × Int → Option ρ) (X : List Int → Option ρ) (R : Unit → Option ρ) : Option ρ :=
  cond (decide (n5 ≥ 1))
    (cond (decide (0 ≤ n5)) (cond (decide (n5 < (((l0.length : Nat) : Int)))) (cond (decide (0 ≤ (w64 (n5 - 1)))) (cond (decide ((w64 (n5 - 1)) < (((l0.length : Nat) : Int)))) (Option.bind (cmp_Less (List.getD l0 (n5.toNat) 0) (List.getD l0 ((w64 (n5 - 1)).toNat) 0)) fun r3 =>
    cond (!r3)
      (X l0)
      (cond (decide (0 ≤ (w64 (n5 - 1)))) (cond (decide ((w64 (n5 - 1)) < (((l0.length : Nat) : Int)))) (cond (decide (0 ≤ n5)) (cond (decide (n5 < (((l0.length : Nat) : Int)))) (cond (decide (0 ≤ n5)) (cond (decide (n5 < (((l0.length : Nat) : Int)))) (cond (decide (0 ≤ (w64 (n5 - 1)))) (cond (decide ((w64 (n5 - 1)) < ((((List.set l0 (n5.toNat) (List.getD l0 ((w64 (n5 - 1)).toNat) 0)).length : Nat) : Int)))) (A (List.set (List.set l0 (n5.toNat) (List.getD l0 ((w64 (n5 - 1)).toNat) 0)) ((w64 (n5 - 1)).toNat) (List.getD l0 (n5.toNat) 0), w64 (n5 - 1))) none) none) none) none) none) none) none) none)) none) none) none) none)
    (X l0)
noncomputable def slices_partialInsertionSortOrdered_L4_step (n1 : Int) (n2 : Int) (n3 : Int) (n4 : Int) (s : List Int × Int) : Option (Rnd (List Int × Int) (List Int) (Unit)) := slices_partialInsertionSortOrdered_L4_K n1 n2 n3 n4 (s.1) (s.2) (fun s => some (.again s)) (fun t => some (.exit t)) (fun k => some (.ret k))
theorem slices_partialInsertionSortOrdered_L4_bind (n1 : Int) (n2 : Int) (n3 : Int) (n4 : Int) (s : List Int × Int) {ρ : Type} (A : List Int × Int → Option ρ) (X : List Int → Option ρ) (R : Unit → Option ρ) : slices_partialInsertionSortOrdered_L4_K n1 n2 n3 n4 (s.1) (s.2) A X R = (slices_partialInsertionSortOrdered_L4_step n1 n2 n3 n4 s).bind (rndE A X R) := by
  simp only [slices_partialInsertionSortOrdered_L4_step, slices_partialInsertionSortOrdered_L4_K, Option.bind_assoc, Option.bind_some, Option.bind_none, cond_bind, sumK_bind, rndE_again, rndE_exit, rndE_ret]
def slices_partialInsertionSortOrdered_L4_st (p : Int × Int × Int × Int) (s : List Int × Int) : List V × Heap Row := ([.c (.sl 0 0), .c (.int .i64 (p.1)), .c (.int .i64 (p.2.1)), .c (.int .i64 (p.2.2.1)), .c (.int .i64 (p.2.2.2)), .c (.int .i64 (s.2))], [⟨.row ⟨.int, s.1⟩, 0, 2⟩])
def slices_partialInsertionSortOrdered_L4_so (p : Int × Int × Int × Int) (t : List Int) : List V × Heap Row := ([.c (.sl 0 0), .c (.int .i64 (p.1)), .c (.int .i64 (p.2.1)), .c (.int .i64 (p.2.2.1)), .c (.int .i64 (p.2.2.2))], [⟨.row ⟨.int, t⟩, 0, 2⟩])
def slices_partialInsertionSortOrdered_L4_D : List V → Heap Row → Option ((Int × Int × Int × Int) × (List Int × Int))
  | [.c (.sl 0 0), .c (.int .i64 v1), .c (.int .i64 v2), .c (.int .i64 v3), .c (.int .i64 v4), .c (.int .i64 v5)], [⟨.row ⟨.int, v6⟩, 0, 2⟩] => some ((v1, v2, v3, v4), (v6, v5))
  | _, _ => none
theorem slices_partialInsertionSortOrdered_L4_D_ok (vs : List V) (L : Heap Row) (p : Int × Int × Int × Int) (s : List Int × Int) (h : slices_partialInsertionSortOrdered_L4_D vs L = some (p, s)) : slices_partialInsertionSortOrdered_L4_st p s = (vs, L) := by
  unfold slices_partialInsertionSortOrdered_L4_D at h
  split at h
  · simp at h; obtain ⟨rfl, rfl⟩ := h; rfl
  · simp at h
noncomputable def slices_partialInsertionSortOrdered_L4_H : LoopH Row := loopX [0, 1, 2, 7, 8, 9] [0, 1, 2, 7, 8] slices_partialInsertionSortOrdered_L4_D (fun p => slices_partialInsertionSortOrdered_L4_step (p.1) (p.2.1) (p.2.2.1) (p.2.2.2)) slices_partialInsertionSortOrdered_L4_so
noncomputable def slices_partialInsertionSortOrdered_L6_K (n1 : Int) (n2 : Int) (n3 : Int) (n4 : Int) (l0 : List Int) (n5 : Int) {ρ : Type} (A : List Int × Int → Option ρ) (X : List Int → Option ρ) (R : Unit → Option ρ) : Option ρ :=
  cond (decide (n5 < n2))
    (cond (decide (0 ≤ n5)) (cond (decide (n5 < (((l0.length : Nat) : Int)))) (cond (decide (0 ≤ (w64 (n5 - 1)))) (cond (decide ((w64 (n5 - 1)) < (((l0.length : Nat) : Int)))) (Option.bind (cmp_Less (List.getD l0 (n5.toNat) 0) (List.getD l0 ((w64 (n5 - 1)).toNat) 0)) fun r5 =>
    cond (!r5)
      (X l0)
      (cond (decide (0 ≤ (w64 (n5 - 1)))) (cond (decide ((w64 (n5 - 1)) < (((l0.length : Nat) : Int)))) (cond (decide (0 ≤ n5)) (cond (decide (n5 < (((l0.length : Nat) : Int)))) (cond (decide (0 ≤ n5)) (cond (decide (n5 < (((l0.length : Nat) : Int)))) (cond (decide (0 ≤ (w64 (n5 - 1)))) (cond (decide ((w64 (n5 - 1)) < ((((List.set l0 (n5.toNat) (List.getD l0 ((w64 (n5 - 1)).toNat) 0)).length : Nat) : Int)))) (A (List.set (List.set l0 (n5.toNat) (List.getD l0 ((w64 (n5 - 1)).toNat) 0)) ((w64 (n5 - 1)).toNat) (List.getD l0 (n5.toNat) 0), w64 (n5 + 1))) none) none) none) none) none) none) none) none)) none) none) none) none)
    (X l0)
noncomputable def slices_partialInsertionSortOrdered_L6_step (n1 : Int) (n2 : Int) (n3 : Int) (n4 : Int) (s : List Int × Int) : Option (Rnd (List Int × Int) (List Int) (Unit)) := slices_partialInsertionSortOrdered_L6_K n1 n2 n3 n4 (s.1) (s.2) (fun s => some (.again s)) (fun t => some (.exit t)) (fun k => some (.ret k))
theorem slices_partialInsertionSortOrdered_L6_bind (n1 : Int) (n2 : Int) (n3 : Int) (n4 : Int) (s : List Int × Int) {ρ : Type} (A : List Int × Int → Option ρ) (X : List Int → Option ρ) (R : Unit → Option ρ) : slices_partialInsertionSortOrdered_L6_K n1 n2 n3 n4 (s.1) (s.2) A X R = (slices_partialInsertionSortOrdered_L6_step n1 n2 n3 n4 s).bind (rndE A X R) := by
  simp only [slices_partialInsertionSortOrdered_L6_step, slices_partialInsertionSortOrdered_L6_K, Option.bind_assoc, Option.bind_some, Option.bind_none, cond_bind, sumK_bind, rndE_again, rndE_exit, rndE_ret]
def slices_partialInsertionSortOrdered_L6_st (p : Int × Int × Int × Int) (s : List Int × Int) : List V × Heap Row := ([.c (.sl 0 0), .c (.int .i64 (p.1)), .c (.int .i64 (p.2.1)), .c (.int .i64 (p.2.2.1)), .c (.int .i64 (p.2.2.2)), .c (.int .i64 (s.2))], [⟨.row ⟨.int, s.1⟩, 0, 2⟩])
def slices_partialInsertionSortOrdered_L6_so (p : Int × Int × Int × Int) (t : List Int) : List V × Heap Row := ([.c (.sl 0 0), .c (.int .i64 (p.1)), .c (.int .i64 (p.2.1)), .c (.int .i64 (p.2.2.1)), .c (.int .i64 (p.2.2.2))], [⟨.row ⟨.int, t⟩, 0, 2⟩])
def slices_partialInsertionSortOrdered_L6_D : List V → Heap Row → Option ((Int × Int × Int × Int) × (List Int × Int))
  | [.c (.sl 0 0), .c (.int .i64 v1), .c (.int .i64 v2), .c (.int .i64 v3), .c (.int .i64 v4), .c (.int .i64 v5)], [⟨.row ⟨.int, v6⟩, 0, 2⟩] => some ((v1, v2, v3, v4), (v6, v5))
  | _, _ => none
theorem slices_partialInsertionSortOrdered_L6_D_ok (vs : List V) (L : Heap Row) (p : Int × Int × Int × Int) (s : List Int × Int) (h : slices_partialInsertionSortOrdered_L6_D vs L = some (p, s)) : slices_partialInsertionSortOrdered_L6_st p s = (vs, L) := by
  unfold slices_partialInsertionSortOrdered_L6_D at h
  split at h
  · simp at h; obtain ⟨rfl, rfl⟩ := h; rfl
  · simp at h
noncomputable def slices_partialInsertionSortOrdered_L6_H : LoopH Row := loopX [0, 1, 2, 7, 8, 10] [0, 1, 2, 7, 8] slices_partialInsertionSortOrdered_L6_D (fun p => slices_partialInsertionSortOrdered_L6_step (p.1) (p.2.1) (p.2.2.1) (p.2.2.2)) slices_partialInsertionSortOrdered_L6_so
noncomputable def slices_partialInsertionSortOrdered_L0_K (n1 : Int) (n2 : Int) (l0 : List Int) (n3 : Int) (n4 : Int) {ρ : Type} (A : List Int × Int × Int → Option ρ) (X : List Int → Option ρ) (R : List Int × Bool → Option ρ) : Option ρ :=
  cond (decide (n4 < 5))
    (Option.bind (runX (slices_partialInsertionSortOrdered_L2_step l0 n1 n2 n4) n3) fun t2 =>
    cond (t2 == n2)
      (R (l0, true))
      (cond (decide ((w64 (n2 - n1)) < 50))
        (R (l0, false))
        (cond (decide (0 ≤ (w64 (t2 - 1)))) (cond (decide ((w64 (t2 - 1)) < (((l0.length : Nat) : Int)))) (cond (decide (0 ≤ t2)) (cond (decide (t2 < (((l0.length : Nat) : Int)))) (cond (decide (0 ≤ t2)) (cond (decide (t2 < (((l0.length : Nat) : Int)))) (cond (decide (0 ≤ (w64 (t2 - 1)))) (cond (decide ((w64 (t2 - 1)) < ((((List.set l0 (t2.toNat) (List.getD l0 ((w64 (t2 - 1)).toNat) 0)).length : Nat) : Int)))) (cond (decide ((w64 (t2 - n1)) ≥ 2))
          (Option.bind (runX (slices_partialInsertionSortOrdered_L4_step n1 n2 t2 n4) (List.set (List.set l0 (t2.toNat) (List.getD l0 ((w64 (t2 - 1)).toNat) 0)) ((w64 (t2 - 1)).toNat) (List.getD l0 (t2.toNat) 0), w64 (t2 - 1))) fun t4 =>
          cond (decide ((w64 (n2 - t2)) ≥ 2))
            (Option.bind (runX (slices_partialInsertionSortOrdered_L6_step n1 n2 t2 n4) (t4, w64 (t2 + 1))) fun t6 =>
            A (t6, t2, w64 (n4 + 1)))
            (A (t4, t2, w64 (n4 + 1))))
          (cond (decide ((w64 (n2 - t2)) ≥ 2))
            (Option.bind (runX (slices_partialInsertionSortOrdered_L6_step n1 n2 t2 n4) (List.set (List.set l0 (t2.toNat) (List.getD l0 ((w64 (t2 - 1)).toNat) 0)) ((w64 (t2 - 1)).toNat) (List.getD l0 (t2.toNat) 0), w64 (t2 + 1))) fun t7 =>
            A (t7, t2, w64 (n4 + 1)))
            (A (List.set (List.set l0 (t2.toNat) (List.getD l0 ((w64 (t2 - 1)).toNat) 0)) ((w64 (t2 - 1)).toNat) (List.getD l0 (t2.toNat) 0), t2, w64 (n4 + 1))))) none) none) none) none) none) none) none) none)))
    (X l0)
noncomputable def slices_partialInsertionSortOrdered_L0_step (n1 : Int) (n2 : Int) (s : List Int × Int × Int) : Option (Rnd (List Int × Int × Int) (List Int) (List Int × Bool)) := slices_partialInsertionSortOrdered_L0_K n1 n2 (s.1) (s.2.1) (s.2.2) (fun s => some (.again s)) (fun t => some (.exit t)) (fun k => some (.ret k))
theorem slices_partialInsertionSortOrdered_L0_bind (n1 : Int) (n2 : Int) (s : List Int × Int × Int) {ρ : Type} (A : List Int × Int × Int → Option ρ) (X : List Int → Option ρ) (R : List Int × Bool → Option ρ) : slices_partialInsertionSortOrdered_L0_K n1 n2 (s.1) (s.2.1) (s.2.2) A X R = (slices_partialInsertionSortOrdered_L0_step n1 n2 s).bind (rndE A X R) := by
  simp only [slices_partialInsertionSortOrdered_L0_step, slices_partialInsertionSortOrdered_L0_K, Option.bind_assoc, Option.bind_some, Option.bind_none, cond_bind, sumK_bind, rndE_again, rndE_exit, rndE_ret]
def slices_partialInsertionSortOrdered_L0_st (p : Int × Int) (s : List Int × Int × Int) : List V × Heap Row := ([.c (.sl 0 0), .c (.int .i64 (p.1)), .c (.int .i64 (p.2)), .c (.int .i64 (s.2.1)), .c (.int .i64 (s.2.2))], [⟨.row ⟨.int, s.1⟩, 0, 2⟩])
def slices_partialInsertionSortOrdered_L0_so (p : Int × Int) (t : List Int) : List V × Heap Row := ([], [⟨.row ⟨.int, t⟩, 0, 2⟩])
def slices_partialInsertionSortOrdered_L0_sr (p : Int × Int) (k : List Int × Bool) : List V × Heap Row := ([.c (.bool (k).2)], [⟨.row ⟨.int, (k).1⟩, 0, 2⟩])
def slices_partialInsertionSortOrdered_L0_D : List V → Heap Row → Option ((Int × Int) × (List Int × Int × Int))
  | [.c (.sl 0 0), .c (.int .i64 v1), .c (.int .i64 v2), .c (.int .i64 v3), .c (.int .i64 v4)], [⟨.row ⟨.int, v5⟩, 0, 2⟩] => some ((v1, v2), (v5, v3, v4))
  | _, _ => none
theorem slices_partialInsertionSortOrdered_L0_D_ok (vs : List V) (L : Heap Row) (p : Int × Int) (s : List Int × Int × Int) (h : slices_partialInsertionSortOrdered_L0_D vs L = some (p, s)) : slices_partialInsertionSortOrdered_L0_st p s = (vs, L) := by
  unfold slices_partialInsertionSortOrdered_L0_D at h
  split at h
  · simp at h; obtain ⟨rfl, rfl⟩ := h; rfl
  · simp at h
noncomputable def slices_partialInsertionSortOrdered_L0_H : LoopH Row := loopR [0, 1, 2, 7, 8] [] slices_partialInsertionSortOrdered_L0_D (fun p => slices_partialInsertionSortOrdered_L0_step (p.1) (p.2)) slices_partialInsertionSortOrdered_L0_so slices_partialInsertionSortOrdered_L0_sr
theorem slices_partialInsertionSortOrdered_L2_nf (p : List Int × Int × Int × Int) (s : Int) (ρ : Type) (again Kx Kr : List V → Heap Row → Option ρ) : evRound rowU (envOf 265 1 [(266, cmp_Less_C)] [(2, slices_partialInsertionSortOrdered_L2_H), (4, slices_partialInsertionSortOrdered_L4_H), (6, slices_partialInsertionSortOrdered_L6_H), (0, slices_partialInsertionSortOrdered_L0_H)]) 2 slices_partialInsertionSortOrdered_L2_H (loopC 265 2) again (slices_partialInsertionSortOrdered_L2_st p s).1 (slices_partialInsertionSortOrdered_L2_st p s).2 Kx Kr = slices_partialInsertionSortOrdered_L2_K (p.1) (p.2.1) (p.2.2.1) (p.2.2.2) s (fun s => again (slices_partialInsertionSortOrdered_L2_st p s).1 (slices_partialInsertionSortOrdered_L2_st p s).2) (fun t => Kx (slices_partialInsertionSortOrdered_L2_so p t).1 (slices_partialInsertionSortOrdered_L2_so p t).2) (fun _ => none) := by kernel_rfl
theorem slices_partialInsertionSortOrdered_L2_ok (hb : LoopsOk Try.prog rowU (envOf 265 1 [(266, cmp_Less_C)] [(2, slices_partialInsertionSortOrdered_L2_H), (4, slices_partialInsertionSortOrdered_L4_H), (6, slices_partialInsertionSortOrdered_L6_H), (0, slices_partialInsertionSortOrdered_L0_H)]) (loopAt (codeP 265) 2)) : LoopOk Try.prog rowU (envOf 265 1 [(266, cmp_Less_C)] [(2, slices_partialInsertionSortOrdered_L2_H), (4, slices_partialInsertionSortOrdered_L4_H), (6, slices_partialInsertionSortOrdered_L6_H), (0, slices_partialInsertionSortOrdered_L0_H)]) 2 (loopAt (codeP 265) 2) slices_partialInsertionSortOrdered_L2_H :=
  loopX_ok tagOk mixed envNl (envT (TabOk.cons cmp_Less_ok TabOk.nil)) hb slices_partialInsertionSortOrdered_L2_st slices_partialInsertionSortOrdered_L2_D_ok fun p s ρ A Kx Kr => (slices_partialInsertionSortOrdered_L2_nf p s ρ A Kx Kr).trans (slices_partialInsertionSortOrdered_L2_bind (p.1) (p.2.1) (p.2.2.1) (p.2.2.2) s _ _ _)
theorem slices_partialInsertionSortOrdered_L4_nf (p : Int × Int × Int × Int) (s : List Int × Int) (ρ : Type) (again Kx Kr : List V → Heap Row → Option ρ) : evRound rowU (envOf 265 1 [(266, cmp_Less_C)] [(2, slices_partialInsertionSortOrdered_L2_H), (4, slices_partialInsertionSortOrdered_L4_H), (6, slices_partialInsertionSortOrdered_L6_H), (0, slices_partialInsertionSortOrdered_L0_H)]) 4 slices_partialInsertionSortOrdered_L4_H (loopC 265 4) again (slices_partialInsertionSortOrdered_L4_st p s).1 (slices_partialInsertionSortOrdered_L4_st p s).2 Kx Kr = slices_partialInsertionSortOrdered_L4_K (p.1) (p.2.1) (p.2.2.1) (p.2.2.2) (s.1) (s.2) (fun s => again (slices_partialInsertionSortOrdered_L4_st p s).1 (slices_partialInsertionSortOrdered_L4_st p s).2) (fun t => Kx (slices_partialInsertionSortOrdered_L4_so p t).1 (slices_partialInsertionSortOrdered_L4_so p t).2) (fun _ => none) := by kernel_rfl
theorem slices_partialInsertionSortOrdered_L4_ok (hb : LoopsOk Try.prog rowU (envOf 265 1 [(266, cmp_Less_C)] [(2, slices_partialInsertionSortOrdered_L2_H), (4, slices_partialInsertionSortOrdered_L4_H), (6, slices_partialInsertionSortOrdered_L6_H), (0, slices_partialInsertionSortOrdered_L0_H)]) (loopAt (codeP 265) 4)) : LoopOk Try.prog rowU (envOf 265 1 [(266, cmp_Less_C)] [(2, slices_partialInsertionSortOrdered_L2_H), (4, slices_partialInsertionSortOrdered_L4_H), (6, slices_partialInsertionSortOrdered_L6_H), (0, slices_partialInsertionSortOrdered_L0_H)]) 4 (loopAt (codeP 265) 4) slices_partialInsertionSortOrdered_L4_H :=
  loopX_ok tagOk mixed envNl (envT (TabOk.cons cmp_Less_ok TabOk.nil)) hb slices_partialInsertionSortOrdered_L4_st slices_partialInsertionSortOrdered_L4_D_ok fun p s ρ A Kx Kr => (slices_partialInsertionSortOrdered_L4_nf p s ρ A Kx Kr).trans (slices_partialInsertionSortOrdered_L4_bind (p.1) (p.2.1) (p.2.2.1) (p.2.2.2) s _ _ _)
theorem slices_partialInsertionSortOrdered_L6_nf (p : Int × Int × Int × Int) (s : List Int × Int) (ρ : Type) (again Kx Kr : List V → Heap Row → Option ρ) : evRound rowU (envOf 265 1 [(266, cmp_Less_C)] [(2, slices_partialInsertionSortOrdered_L2_H), (4, slices_partialInsertionSortOrdered_L4_H), (6, slices_partialInsertionSortOrdered_L6_H), (0, slices_partialInsertionSortOrdered_L0_H)]) 6 slices_partialInsertionSortOrdered_L6_H (loopC 265 6) again (slices_partialInsertionSortOrdered_L6_st p s).1 (slices_partialInsertionSortOrdered_L6_st p s).2 Kx Kr = slices_partialInsertionSortOrdered_L6_K (p.1) (p.2.1) (p.2.2.1) (p.2.2.2) (s.1) (s.2) (fun s => again (slices_partialInsertionSortOrdered_L6_st p s).1 (slices_partialInsertionSortOrdered_L6_st p s).2) (fun t => Kx (slices_partialInsertionSortOrdered_L6_so p t).1 (slices_partialInsertionSortOrdered_L6_so p t).2) (fun _ => none) := by kernel_rfl
theorem slices_partialInsertionSortOrdered_L6_ok (hb : LoopsOk Try.prog rowU (envOf 265 1 [(266, cmp_Less_C)] [(2, slices_partialInsertionSortOrdered_L2_H), (4, slices_partialInsertionSortOrdered_L4_H), (6, slices_partialInsertionSortOrdered_L6_H), (0, slices_partialInsertionSortOrdered_L0_H)]) (loopAt (codeP 265) 6)) : LoopOk Try.prog rowU (envOf 265 1 [(266, cmp_Less_C)] [(2, slices_partialInsertionSortOrdered_L2_H), (4, slices_partialInsertionSortOrdered_L4_H), (6, slices_partialInsertionSortOrdered_L6_H), (0, slices_partialInsertionSortOrdered_L0_H)]) 6 (loopAt (codeP 265) 6) slices_partialInsertionSortOrdered_L6_H :=
  loopX_ok tagOk mixed envNl (envT (TabOk.cons cmp_Less_ok TabOk.nil)) hb slices_partialInsertionSortOrdered_L6_st slices_partialInsertionSortOrdered_L6_D_ok fun p s ρ A Kx Kr => (slices_partialInsertionSortOrdered_L6_nf p s ρ A Kx Kr).trans (slices_partialInsertionSortOrdered_L6_bind (p.1) (p.2.1) (p.2.2.1) (p.2.2.2) s _ _ _)
theorem slices_partialInsertionSortOrdered_L0_nf (p : Int × Int) (s : List Int × Int × Int) (ρ : Type) (again Kx Kr : List V → Heap Row → Option ρ) : evRound rowU (envOf 265 1 [(266, cmp_Less_C)] [(2, slices_partialInsertionSortOrdered_L2_H), (4, slices_partialInsertionSortOrdered_L4_H), (6, slices_partialInsertionSortOrdered_L6_H), (0, slices_partialInsertionSortOrdered_L0_H)]) 0 slices_partialInsertionSortOrdered_L0_H (loopC 265 0) again (slices_partialInsertionSortOrdered_L0_st p s).1 (slices_partialInsertionSortOrdered_L0_st p s).2 Kx Kr = slices_partialInsertionSortOrdered_L0_K (p.1) (p.2) (s.1) (s.2.1) (s.2.2) (fun s => again (slices_partialInsertionSortOrdered_L0_st p s).1 (slices_partialInsertionSortOrdered_L0_st p s).2) (fun t => Kx (slices_partialInsertionSortOrdered_L0_so p t).1 (slices_partialInsertionSortOrdered_L0_so p t).2) (fun k => Kr (slices_partialInsertionSortOrdered_L0_sr p k).1 (slices_partialInsertionSortOrdered_L0_sr p k).2) := by kernel_rfl
theorem slices_partialInsertionSortOrdered_L0_ok (hb : LoopsOk Try.prog rowU (envOf 265 1 [(266, cmp_Less_C)] [(2, slices_partialInsertionSortOrdered_L2_H), (4, slices_partialInsertionSortOrdered_L4_H), (6, slices_partialInsertionSortOrdered_L6_H), (0, slices_partialInsertionSortOrdered_L0_H)]) (loopAt (codeP 265) 0)) : LoopOk Try.prog rowU (envOf 265 1 [(266, cmp_Less_C)] [(2, slices_partialInsertionSortOrdered_L2_H), (4, slices_partialInsertionSortOrdered_L4_H), (6, slices_partialInsertionSortOrdered_L6_H), (0, slices_partialInsertionSortOrdered_L0_H)]) 0 (loopAt (codeP 265) 0) slices_partialInsertionSortOrdered_L0_H :=
  loopR_ok tagOk mixed envNl (envT (TabOk.cons cmp_Less_ok TabOk.nil)) hb slices_partialInsertionSortOrdered_L0_st slices_partialInsertionSortOrdered_L0_D_ok fun p s ρ A Kx Kr => (slices_partialInsertionSortOrdered_L0_nf p s ρ A Kx Kr).trans (slices_partialInsertionSortOrdered_L0_bind (p.1) (p.2) s _ _ _)
noncomputable def slices_partialInsertionSortOrdered_K (x0 : List Int) (x1 : Int) (x2 : Int) {ρ : Type} (K : Bool × List Int → Option ρ) : Option ρ :=
  Option.bind (runL (slices_partialInsertionSortOrdered_L0_step x1 x2) (x0, w64 (x1 + 1), 0)) fun ot8 => sumK ot8
    (fun t8 => K (false, t8))
    (fun k9 => K (k9.2, k9.1))
noncomputable def slices_partialInsertionSortOrdered (x0 : List Int) (x1 : Int) (x2 : Int) : Option (Bool × List Int) := slices_partialInsertionSortOrdered_K x0 x1 x2 some
theorem slices_partialInsertionSortOrdered_bind (x0 : List Int) (x1 : Int) (x2 : Int) {ρ : Type} (K : Bool × List Int → Option ρ) : slices_partialInsertionSortOrdered_K x0 x1 x2 K = (slices_partialInsertionSortOrdered x0 x1 x2).bind K := by
  simp only [slices_partialInsertionSortOrdered, slices_partialInsertionSortOrdered_K, Option.bind_assoc, Option.bind_some, Option.bind_none, cond_bind, sumK_bind]
noncomputable def slices_partialInsertionSortOrdered_E : Env Row := envN false 265 1 [(266, cmp_Less_C)] [(2, slices_partialInsertionSortOrdered_L2_H), (4, slices_partialInsertionSortOrdered_L4_H), (6, slices_partialInsertionSortOrdered_L6_H), (0, slices_partialInsertionSortOrdered_L0_H)]
theorem slices_partialInsertionSortOrdered_nf (x0 : List Int) (x1 : Int) (x2 : Int) (ρ : Type) (K : V → Heap Row → Option ρ) : evBody rowU slices_partialInsertionSortOrdered_E (bodyC 265) [.c (.sl 0 0), .c (.int .i64 x1), .c (.int .i64 x2)] [⟨.row ⟨.int, x0⟩, 0, 2⟩] K = slices_partialInsertionSortOrdered_K x0 x1 x2 (fun r => K (.c (.bool r.1)) [⟨.row ⟨.int, r.2⟩, 0, 2⟩]) := by kernel_rfl
def slices_partialInsertionSortOrdered_D : List V → Heap Row → Option (List Int × Int × Int)
  | [.c (.sl 0 0), .c (.int .i64 v1), .c (.int .i64 v2)], [⟨.row ⟨.int, v3⟩, 0, 2⟩] => some (v3, v1, v2)
  | _, _ => none
theorem slices_partialInsertionSortOrdered_D_ok {vs : List V} {W : Heap Row} {a : List Int × Int × Int} (h : slices_partialInsertionSortOrdered_D vs W = some a) : vs = [.c (.sl 0 0), .c (.int .i64 (a.2.1)), .c (.int .i64 (a.2.2))] ∧ W = [⟨.row ⟨.int, a.1⟩, 0, 2⟩] := by
  unfold slices_partialInsertionSortOrdered_D at h
  split at h
  · simp at h; subst h; exact ⟨rfl, rfl⟩
  · simp at h
noncomputable def slices_partialInsertionSortOrdered_C : Callee Row := ⟨[(true, 0)], fun _ vs W K => (slices_partialInsertionSortOrdered_D vs W).bind fun a => (slices_partialInsertionSortOrdered a.1 a.2.1 a.2.2).bind fun r => K (.c (.bool r.1)) [⟨.row ⟨.int, r.2⟩, 0, 2⟩]⟩
theorem slices_partialInsertionSortOrdered_ok : CalleeOk Try.prog rowU 265 slices_partialInsertionSortOrdered_C := by
  refine calleeP (nl := false) (m0 := 1) (T := [(266, cmp_Less_C)]) (H := [(2, slices_partialInsertionSortOrdered_L2_H), (4, slices_partialInsertionSortOrdered_L4_H), (6, slices_partialInsertionSortOrdered_L6_H), (0, slices_partialInsertionSortOrdered_L0_H)]) (TabOk.cons cmp_Less_ok TabOk.nil) (by kernel_rfl) (by kernel_rfl) (fun p hp hb => by
    simp only [List.mem_cons, List.not_mem_nil, or_false] at hp
    rcases hp with rfl | rfl | rfl | rfl
    · exact slices_partialInsertionSortOrdered_L2_ok hb
    · exact slices_partialInsertionSortOrdered_L4_ok hb
    · exact slices_partialInsertionSortOrdered_L6_ok hb
    · exact slices_partialInsertionSortOrdered_L0_ok hb) fun ρ vs W K r h => ?_
  obtain ⟨a, ha, h1⟩ := Option.bind_eq_some_iff.1 h
  clear h
  obtain ⟨rfl, rfl⟩ := slices_partialInsertionSortOrdered_D_ok ha
  obtain ⟨q, hq, h2⟩ := Option.bind_eq_some_iff.1 h1
  exact ⟨_, _, h2, (slices_partialInsertionSortOrdered_nf (a.1) (a.2.1) (a.2.2) _ _).trans ((slices_partialInsertionSortOrdered_bind (a.1) (a.2.1) (a.2.2) _).trans (by rw [hq]; rfl))⟩
/-! slices.partitionEqualOrdered[int] -/
noncomputable def slices_partitionEqualOrdered_L2_K (l0 : List Int) (n1 : Int) (n3 : Int) (n2 : Int) {ρ : Type} (A : Int → Option ρ) (X : Int → Option ρ) (R : Unit → Option ρ) : Option ρ :=
  cond ((decide (n2 ≤ n3)) == true)
    (cond (decide (0 ≤ n1)) (cond (decide (n1 < (((l0.length : Nat) : Int)))) (cond (decide (0 ≤ n2)) (cond (decide (n2 < (((l0.length : Nat) : Int)))) (Option.bind (cmp_Less (List.getD l0 (n1.toNat) 0) (List.getD l0 (n2.toNat) 0)) fun r1 =>
    cond (!r1)
      (A (w64 (n2 + 1)))
      (X n2)) none) none) none) none)
    (X n2)
noncomputable def slices_partitionEqualOrdered_L2_step (l0 : List Int) (n1 : Int) (n3 : Int) (s : Int) : Option (Rnd (Int) (Int) (Unit)) := slices_partitionEqualOrdered_L2_K l0 n1 n3 s (fun s => some (.again s)) (fun t => some (.exit t)) (fun k => some (.ret k))
theorem slices_partitionEqualOrdered_L2_bind (l0 : List Int) (n1 : Int) (n3 : Int) (s : Int) {ρ : Type} (A : Int → Option ρ) (X : Int → Option ρ) (R : Unit → Option ρ) : slices_partitionEqualOrdered_L2_K l0 n1 n3 s A X R = (slices_partitionEqualOrdered_L2_step l0 n1 n3 s).bind (rndE A X R) := by
  simp only [slices_partitionEqualOrdered_L2_step, slices_partitionEqualOrdered_L2_K, Option.bind_assoc, Option.bind_some, Option.bind_none, cond_bind, sumK_bind, rndE_again, rndE_exit, rndE_ret]
def slices_partitionEqualOrdered_L2_st (p : List Int × Int × Int) (s : Int) : List V × Heap Row := ([.c (.sl 0 0), .c (.int .i64 (p.2.1)), .c (.int .i64 (s)), .c (.int .i64 (p.2.2))], [⟨.row ⟨.int, p.1⟩, 0, 2⟩])
def slices_partitionEqualOrdered_L2_so (p : List Int × Int × Int) (t : Int) : List V × Heap Row := ([.c (.sl 0 0), .c (.int .i64 (p.2.1)), .c (.int .i64 (t)), .c (.int .i64 (p.2.2))], [⟨.row ⟨.int, p.1⟩, 0, 2⟩])
def slices_partitionEqualOrdered_L2_D : List V → Heap Row → Option ((List Int × Int × Int) × (Int))
  | [.c (.sl 0 0), .c (.int .i64 v1), .c (.int .i64 v2), .c (.int .i64 v3)], [⟨.row ⟨.int, v4⟩, 0, 2⟩] => some ((v4, v1, v3), (v2))
  | _, _ => none
theorem slices_partitionEqualOrdered_L2_D_ok (vs : List V) (L : Heap Row) (p : List Int × Int × Int) (s : Int) (h : slices_partitionEqualOrdered_L2_D vs L = some (p, s)) : slices_partitionEqualOrdered_L2_st p s = (vs, L) := by
  unfold slices_partitionEqualOrdered_L2_D at h
  split at h
  · simp at h; obtain ⟨rfl, rfl⟩ := h; rfl
  · simp at h
noncomputable def slices_partitionEqualOrdered_L2_H : LoopH Row := loopX [0, 1, 9, 10] [0, 1, 9, 10] slices_partitionEqualOrdered_L2_D (fun p => slices_partitionEqualOrdered_L2_step (p.1) (p.2.1) (p.2.2)) slices_partitionEqualOrdered_L2_so
noncomputable def slices_partitionEqualOrdered_L4_K (l0 : List Int) (n1 : Int) (n2 : Int) (n3 : Int) {ρ : Type} (A : Int → Option ρ) (X : Int → Option ρ) (R : Unit → Option ρ) : Option ρ :=
  cond ((decide (n2 ≤ n3)) == true)
    (cond (decide (0 ≤ n1)) (cond (decide (n1 < (((l0.length : Nat) : Int)))) (cond (decide (0 ≤ n3)) (cond (decide (n3 < (((l0.length : Nat) : Int)))) (Option.bind (cmp_Less (List.getD l0 (n1.toNat) 0) (List.getD l0 (n3.toNat) 0)) fun r3 =>
    cond r3
      (A (w64 (n3 - 1)))
      (X n3)) none) none) none) none)
    (X n3)
noncomputable def slices_partitionEqualOrdered_L4_step (l0 : List Int) (n1 : Int) (n2 : Int) (s : Int) : Option (Rnd (Int) (Int) (Unit)) := slices_partitionEqualOrdered_L4_K l0 n1 n2 s (fun s => some (.again s)) (fun t => some (.exit t)) (fun k => some (.ret k))
theorem slices_partitionEqualOrdered_L4_bind (l0 : List Int) (n1 : Int) (n2 : Int) (s : Int) {ρ : Type} (A : Int → Option ρ) (X : Int → Option ρ) (R : Unit → Option ρ) : slices_partitionEqualOrdered_L4_K l0 n1 n2 s A X R = (slices_partitionEqualOrdered_L4_step l0 n1 n2 s).bind (rndE A X R) := by
  simp only [slices_partitionEqualOrdered_L4_step, slices_partitionEqualOrdered_L4_K, Option.bind_assoc, Option.bind_some, Option.bind_none, cond_bind, sumK_bind, rndE_again, rndE_exit, rndE_ret]
def slices_partitionEqualOrdered_L4_st (p : List Int × Int × Int) (s : Int) : List V × Heap Row := ([.c (.sl 0 0), .c (.int .i64 (p.2.1)), .c (.int .i64 (p.2.2)), .c (.int .i64 (s))], [⟨.row ⟨.int, p.1⟩, 0, 2⟩])
def slices_partitionEqualOrdered_L4_so (p : List Int × Int × Int) (t : Int) : List V × Heap Row := ([.c (.sl 0 0), .c (.int .i64 (p.2.1)), .c (.int .i64 (p.2.2)), .c (.int .i64 (t))], [⟨.row ⟨.int, p.1⟩, 0, 2⟩])
def slices_partitionEqualOrdered_L4_D : List V → Heap Row → Option ((List Int × Int × Int) × (Int))
  | [.c (.sl 0 0), .c (.int .i64 v1), .c (.int .i64 v2), .c (.int .i64 v3)], [⟨.row ⟨.int, v4⟩, 0, 2⟩] => some ((v4, v1, v2), (v3))
  | _, _ => none
theorem slices_partitionEqualOrdered_L4_D_ok (vs : List V) (L : Heap Row) (p : List Int × Int × Int) (s : Int) (h : slices_partitionEqualOrdered_L4_D vs L = some (p, s)) : slices_partitionEqualOrdered_L4_st p s = (vs, L) := by
  unfold slices_partitionEqualOrdered_L4_D at h
  split at h
  · simp at h; obtain ⟨rfl, rfl⟩ := h; rfl
  · simp at h
noncomputable def slices_partitionEqualOrdered_L4_H : LoopH Row := loopX [0, 1, 9, 10] [0, 1, 9, 10] slices_partitionEqualOrdered_L4_D (fun p => slices_partitionEqualOrdered_L4_step (p.1) (p.2.1) (p.2.2)) slices_partitionEqualOrdered_L4_so
noncomputable def slices_partitionEqualOrdered_L0_K (n1 : Int) (l0 : List Int) (n2 : Int) (n3 : Int) {ρ : Type} (A : List Int × Int × Int → Option ρ) (X : List Int × Int → Option ρ) (R : Unit → Option ρ) : Option ρ :=
  Option.bind (runX (slices_partitionEqualOrdered_L2_step l0 n1 n3) n2) fun t2 =>
  Option.bind (runX (slices_partitionEqualOrdered_L4_step l0 n1 t2) n3) fun t4 =>
  cond (decide (t2 > t4))
    (X (l0, t2))
    (cond (decide (0 ≤ t4)) (cond (decide (t4 < (((l0.length : Nat) : Int)))) (cond (decide (0 ≤ t2)) (cond (decide (t2 < (((l0.length : Nat) : Int)))) (cond (decide (0 ≤ t2)) (cond (decide (t2 < (((l0.length : Nat) : Int)))) (cond (decide (0 ≤ t4)) (cond (decide (t4 < ((((List.set l0 (t2.toNat) (List.getD l0 (t4.toNat) 0)).length : Nat) : Int)))) (A (List.set (List.set l0 (t2.toNat) (List.getD l0 (t4.toNat) 0)) (t4.toNat) (List.getD l0 (t2.toNat) 0), w64 (t2 + 1), w64 (t4 - 1))) none) none) none) none) none) none) none) none)
noncomputable def slices_partitionEqualOrdered_L0_step (n1 : Int) (s : List Int × Int × Int) : Option (Rnd (List Int × Int × Int) (List Int × Int) (Unit)) := slices_partitionEqualOrdered_L0_K n1 (s.1) (s.2.1) (s.2.2) (fun s => some (.again s)) (fun t => some (.exit t)) (fun k => some (.ret k))
theorem slices_partitionEqualOrdered_L0_bind (n1 : Int) (s : List Int × Int × Int) {ρ : Type} (A : List Int × Int × Int → Option ρ) (X : List Int × Int → Option ρ) (R : Unit → Option ρ) : slices_partitionEqualOrdered_L0_K n1 (s.1) (s.2.1) (s.2.2) A X R = (slices_partitionEqualOrdered_L0_step n1 s).bind (rndE A X R) := by
  simp only [slices_partitionEqualOrdered_L0_step, slices_partitionEqualOrdered_L0_K, Option.bind_assoc, Option.bind_some, Option.bind_none, cond_bind, sumK_bind, rndE_again, rndE_exit, rndE_ret]
def slices_partitionEqualOrdered_L0_st (p : Int) (s : List Int × Int × Int) : List V × Heap Row := ([.c (.sl 0 0), .c (.int .i64 (p)), .c (.int .i64 (s.2.1)), .c (.int .i64 (s.2.2))], [⟨.row ⟨.int, s.1⟩, 0, 2⟩])
def slices_partitionEqualOrdered_L0_so (p : Int) (t : List Int × Int) : List V × Heap Row := ([.c (.int .i64 (t).2)], [⟨.row ⟨.int, (t).1⟩, 0, 2⟩])
def slices_partitionEqualOrdered_L0_D : List V → Heap Row → Option ((Int) × (List Int × Int × Int))
  | [.c (.sl 0 0), .c (.int .i64 v1), .c (.int .i64 v2), .c (.int .i64 v3)], [⟨.row ⟨.int, v4⟩, 0, 2⟩] => some ((v1), (v4, v2, v3))
  | _, _ => none
theorem slices_partitionEqualOrdered_L0_D_ok (vs : List V) (L : Heap Row) (p : Int) (s : List Int × Int × Int) (h : slices_partitionEqualOrdered_L0_D vs L = some (p, s)) : slices_partitionEqualOrdered_L0_st p s = (vs, L) := by
  unfold slices_partitionEqualOrdered_L0_D at h
  split at h
  · simp at h; obtain ⟨rfl, rfl⟩ := h; rfl
  · simp at h
noncomputable def slices_partitionEqualOrdered_L0_H : LoopH Row := loopX [0, 1, 9, 10] [9] slices_partitionEqualOrdered_L0_D (fun p => slices_partitionEqualOrdered_L0_step p) slices_partitionEqualOrdered_L0_so
theorem slices_partitionEqualOrdered_L2_nf (p : List Int × Int × Int) (s : Int) (ρ : Type) (again Kx Kr : List V → Heap Row → Option ρ) : evRound rowU (envOf 267 1 [(266, cmp_Less_C)] [(2, slices_partitionEqualOrdered_L2_H), (4, slices_partitionEqualOrdered_L4_H), (0, slices_partitionEqualOrdered_L0_H)]) 2 slices_partitionEqualOrdered_L2_H (loopC 267 2) again (slices_partitionEqualOrdered_L2_st p s).1 (slices_partitionEqualOrdered_L2_st p s).2 Kx Kr = slices_partitionEqualOrdered_L2_K (p.1) (p.2.1) (p.2.2) s (fun s => again (slices_partitionEqualOrdered_L2_st p s).1 (slices_partitionEqualOrdered_L2_st p s).2) (fun t => Kx (slices_partitionEqualOrdered_L2_so p t).1 (slices_partitionEqualOrdered_L2_so p t).2) (fun _ => none) := by kernel_rfl
theorem slices_partitionEqualOrdered_L2_ok (hb : LoopsOk Try.prog rowU (envOf 267 1 [(266, cmp_Less_C)] [(2, slices_partitionEqualOrdered_L2_H), (4, slices_partitionEqualOrdered_L4_H), (0, slices_partitionEqualOrdered_L0_H)]) (loopAt (codeP 267) 2)) : LoopOk Try.prog rowU (envOf 267 1 [(266, cmp_Less_C)] [(2, slices_partitionEqualOrdered_L2_H), (4, slices_partitionEqualOrdered_L4_H), (0, slices_partitionEqualOrdered_L0_H)]) 2 (loopAt (codeP 267) 2) slices_partitionEqualOrdered_L2_H :=
  loopX_ok tagOk mixed envNl (envT (TabOk.cons cmp_Less_ok TabOk.nil)) hb slices_partitionEqualOrdered_L2_st slices_partitionEqualOrdered_L2_D_ok fun p s ρ A Kx Kr => (slices_partitionEqualOrdered_L2_nf p s ρ A Kx Kr).trans (slices_partitionEqualOrdered_L2_bind (p.1) (p.2.1) (p.2.2) s _ _ _)
theorem slices_partitionEqualOrdered_L4_nf (p : List Int × Int × Int) (s : Int) (ρ : Type) (again Kx Kr : List V → Heap Row → Option ρ) : evRound rowU (envOf 267 1 [(266, cmp_Less_C)] [(2, slices_partitionEqualOrdered_L2_H), (4, slices_partitionEqualOrdered_L4_H), (0, slices_partitionEqualOrdered_L0_H)]) 4 slices_partitionEqualOrdered_L4_H (loopC 267 4) again (slices_partitionEqualOrdered_L4_st p s).1 (slices_partitionEqualOrdered_L4_st p s).2 Kx Kr = slices_partitionEqualOrdered_L4_K (p.1) (p.2.1) (p.2.2) s (fun s => again (slices_partitionEqualOrdered_L4_st p s).1 (slices_partitionEqualOrdered_L4_st p s).2) (fun t => Kx (slices_partitionEqualOrdered_L4_so p t).1 (slices_partitionEqualOrdered_L4_so p t).2) (fun _ => none) := by kernel_rfl
theorem slices_partitionEqualOrdered_L4_ok (hb : LoopsOk Try.prog rowU (envOf 267 1 [(266, cmp_Less_C)] [(2, slices_partitionEqualOrdered_L2_H), (4, slices_partitionEqualOrdered_L4_H), (0, slices_partitionEqualOrdered_L0_H)]) (loopAt (codeP 267) 4)) : LoopOk Try.prog rowU (envOf 267 1 [(266, cmp_Less_C)] [(2, slices_partitionEqualOrdered_L2_H), (4, slices_partitionEqualOrdered_L4_H), (0, slices_partitionEqualOrdered_L0_H)]) 4 (loopAt (codeP 267) 4) slices_partitionEqualOrdered_L4_H :=
  loopX_ok tagOk mixed envNl (envT (TabOk.cons cmp_Less_ok TabOk.nil)) hb slices_partitionEqualOrdered_L4_st slices_partitionEqualOrdered_L4_D_ok fun p s ρ A Kx Kr => (slices_partitionEqualOrdered_L4_nf p s ρ A Kx Kr).trans (slices_partitionEqualOrdered_L4_bind (p.1) (p.2.1) (p.2.2) s _ _ _)
theorem slices_partitionEqualOrdered_L0_nf (p : Int) (s : List Int × Int × Int) (ρ : Type) (again Kx Kr : List V → Heap Row → Option ρ) : evRound rowU (envOf 267 1 [(266, cmp_Less_C)] [(2, slices_partitionEqualOrdered_L2_H), (4, slices_partitionEqualOrdered_L4_H), (0, slices_partitionEqualOrdered_L0_H)]) 0 slices_partitionEqualOrdered_L0_H (loopC 267 0) again (slices_partitionEqualOrdered_L0_st p s).1 (slices_partitionEqualOrdered_L0_st p s).2 Kx Kr = slices_partitionEqualOrdered_L0_K p (s.1) (s.2.1) (s.2.2) (fun s => again (slices_partitionEqualOrdered_L0_st p s).1 (slices_partitionEqualOrdered_L0_st p s).2) (fun t => Kx (slices_partitionEqualOrdered_L0_so p t).1 (slices_partitionEqualOrdered_L0_so p t).2) (fun _ => none) := by kernel_rfl
theorem slices_partitionEqualOrdered_L0_ok (hb : LoopsOk Try.prog rowU (envOf 267 1 [(266, cmp_Less_C)] [(2, slices_partitionEqualOrdered_L2_H), (4, slices_partitionEqualOrdered_L4_H), (0, slices_partitionEqualOrdered_L0_H)]) (loopAt (codeP 267) 0)) : LoopOk Try.prog rowU (envOf 267 1 [(266, cmp_Less_C)] [(2, slices_partitionEqualOrdered_L2_H), (4, slices_partitionEqualOrdered_L4_H), (0, slices_partitionEqualOrdered_L0_H)]) 0 (loopAt (codeP 267) 0) slices_partitionEqualOrdered_L0_H :=
  loopX_ok tagOk mixed envNl (envT (TabOk.cons cmp_Less_ok TabOk.nil)) hb slices_partitionEqualOrdered_L0_st slices_partitionEqualOrdered_L0_D_ok fun p s ρ A Kx Kr => (slices_partitionEqualOrdered_L0_nf p s ρ A Kx Kr).trans (slices_partitionEqualOrdered_L0_bind p s _ _ _)
noncomputable def slices_partitionEqualOrdered_K (x0 : List Int) (x1 : Int) (x2 : Int) (x3 : Int) {ρ : Type} (K : Int × List Int → Option ρ) : Option ρ :=
  cond (decide (0 ≤ x3)) (cond (decide (x3 < (((x0.length : Nat) : Int)))) (cond (decide (0 ≤ x1)) (cond (decide (x1 < (((x0.length : Nat) : Int)))) (cond (decide (0 ≤ x1)) (cond (decide (x1 < (((x0.length : Nat) : Int)))) (cond (decide (0 ≤ x3)) (cond (decide (x3 < ((((List.set x0 (x1.toNat) (List.getD x0 (x3.toNat) 0)).length : Nat) : Int)))) (Option.bind (runX (slices_partitionEqualOrdered_L0_step x1) (List.set (List.set x0 (x1.toNat) (List.getD x0 (x3.toNat) 0)) (x3.toNat) (List.getD x0 (x1.toNat) 0), w64 (x1 + 1), w64 (x2 - 1))) fun t5 =>
  K (t5.2, t5.1)) none) none) none) none) none) none) none) none
noncomputable def slices_partitionEqualOrdered (x0 : List Int) (x1 : Int) (x2 : Int) (x3 : Int) : Option (Int × List Int) := slices_partitionEqualOrdered_K x0 x1 x2 x3 some
theorem slices_partitionEqualOrdered_bind (x0 : List Int) (x1 : Int) (x2 : Int) (x3 : Int) {ρ : Type} (K : Int × List Int → Option ρ) : slices_partitionEqualOrdered_K x0 x1 x2 x3 K = (slices_partitionEqualOrdered x0 x1 x2 x3).bind K := by
  simp only [slices_partitionEqualOrdered, slices_partitionEqualOrdered_K, Option.bind_assoc, Option.bind_some, Option.bind_none, cond_bind, sumK_bind]
noncomputable def slices_partitionEqualOrdered_E : Env Row := envN false 267 1 [(266, cmp_Less_C)] [(2, slices_partitionEqualOrdered_L2_H), (4, slices_partitionEqualOrdered_L4_H), (0, slices_partitionEqualOrdered_L0_H)]
theorem slices_partitionEqualOrdered_nf (x0 : List Int) (x1 : Int) (x2 : Int) (x3 : Int) (ρ : Type) (K : V → Heap Row → Option ρ) : evBody rowU slices_partitionEqualOrdered_E (bodyC 267) [.c (.sl 0 0), .c (.int .i64 x1), .c (.int .i64 x2), .c (.int .i64 x3)] [⟨.row ⟨.int, x0⟩, 0, 2⟩] K = slices_partitionEqualOrdered_K x0 x1 x2 x3 (fun r => K (.c (.int .i64 r.1)) [⟨.row ⟨.int, r.2⟩, 0, 2⟩]) := by kernel_rfl
def slices_partitionEqualOrdered_D : List V → Heap Row → Option (List Int × Int × Int × Int)
  | [.c (.sl 0 0), .c (.int .i64 v1), .c (.int .i64 v2), .c (.int .i64 v3)], [⟨.row ⟨.int, v4⟩, 0, 2⟩] => some (v4, v1, v2, v3)
  | _, _ => none
theorem slices_partitionEqualOrdered_D_ok {vs : List V} {W : Heap Row} {a : List Int × Int × Int × Int} (h : slices_partitionEqualOrdered_D vs W = some a) : vs = [.c (.sl 0 0), .c (.int .i64 (a.2.1)), .c (.int .i64 (a.2.2.1)), .c (.int .i64 (a.2.2.2))] ∧ W = [⟨.row ⟨.int, a.1⟩, 0, 2⟩] := by
  unfold slices_partitionEqualOrdered_D at h
  split at h
  · simp at h; subst h; exact ⟨rfl, rfl⟩
  · simp at h
noncomputable def slices_partitionEqualOrdered_C : Callee Row := ⟨[(true, 0)], fun _ vs W K => (slices_partitionEqualOrdered_D vs W).bind fun a => (slices_partitionEqualOrdered a.1 a.2.1 a.2.2.1 a.2.2.2).bind fun r => K (.c (.int .i64 r.1)) [⟨.row ⟨.int, r.2⟩, 0, 2⟩]⟩
theorem slices_partitionEqualOrdered_ok : CalleeOk Try.prog rowU 267 slices_partitionEqualOrdered_C := by
  refine calleeP (nl := false) (m0 := 1) (T := [(266, cmp_Less_C)]) (H := [(2, slices_partitionEqualOrdered_L2_H), (4, slices_partitionEqualOrdered_L4_H), (0, slices_partitionEqualOrdered_L0_H)]) (TabOk.cons cmp_Less_ok TabOk.nil) (by kernel_rfl) (by kernel_rfl) (fun p hp hb => by
    simp only [List.mem_cons, List.not_mem_nil, or_false] at hp
    rcases hp with rfl | rfl | rfl
    · exact slices_partitionEqualOrdered_L2_ok hb
    · exact slices_partitionEqualOrdered_L4_ok hb
    · exact slices_partitionEqualOrdered_L0_ok hb) fun ρ vs W K r h => ?_
  obtain ⟨a, ha, h1⟩ := Option.bind_eq_some_iff.1 h
  clear h
  obtain ⟨rfl, rfl⟩ := slices_partitionEqualOrdered_D_ok ha
  obtain ⟨q, hq, h2⟩ := Option.bind_eq_some_iff.1 h1
  exact ⟨_, _, h2, (slices_partitionEqualOrdered_nf (a.1) (a.2.1) (a.2.2.1) (a.2.2.2) _ _).trans ((slices_partitionEqualOrdered_bind (a.1) (a.2.1) (a.2.2.1) (a.2.2.2) _).trans (by rw [hq]; rfl))⟩
end Go.Eng
