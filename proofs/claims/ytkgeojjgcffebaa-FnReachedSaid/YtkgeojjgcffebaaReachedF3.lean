/- Functions of the program, as the evaluator tells them: printed by a program of ours. -/
import Derived.Test.YtkgeojjgcffebaaReachedFS
import Derived.Test.YtkgeojjgcffebaaReachedF0
import Derived.Test.YtkgeojjgcffebaaReachedF1
import Derived.Test.YtkgeojjgcffebaaReachedF2
set_option linter.unusedVariables false
set_option linter.unusedSimpArgs false
set_option maxRecDepth 20000
namespace Go.Eng
open Go.Proofs
/-! slices.IndexFunc[[]loop.example/g00249/impl.Word,loop.example/g00249/impl.Word] -/
noncomputable def slices_IndexFunc_127_L0_K (l0 : List GWord) (n1 : Int) (b2 : Bool) (n3 : Int) (n4 : Int) (n5 : Int) (n6 : Int) (n7 : Int) (n8 : Int) {ρ : Type} (A : Int → Option ρ) (X : Unit → Option ρ) (R : Int → Option ρ) : Option ρ :=
  cond (decide (n8 < n7))
    (cond (decide (0 ≤ n8)) (cond (decide (n8 < (((l0.length : Nat) : Int)))) (Option.bind (impl_Unders_1 (List.getD l0 (n8.toNat) (default)) n1 b2 n3 n4 n5 n6) fun r1 =>
    cond r1
      (R n8)
      (A (w64 (n8 + 1)))) none) none)
    (X ())
noncomputable def slices_IndexFunc_127_L0_step (l0 : List GWord) (n1 : Int) (b2 : Bool) (n3 : Int) (n4 : Int) (n5 : Int) (n6 : Int) (n7 : Int) (s : Int) : Option (Rnd (Int) (Unit) (Int)) := slices_IndexFunc_127_L0_K l0 n1 b2 n3 n4 n5 n6 n7 s (fun s => some (.again s)) (fun t => some (.exit t)) (fun k => some (.ret k))
theorem slices_IndexFunc_127_L0_bind (l0 : List GWord) (n1 : Int) (b2 : Bool) (n3 : Int) (n4 : Int) (n5 : Int) (n6 : Int) (n7 : Int) (s : Int) {ρ : Type} (A : Int → Option ρ) (X : Unit → Option ρ) (R : Int → Option ρ) : slices_IndexFunc_127_L0_K l0 n1 b2 n3 n4 n5 n6 n7 s A X R = (slices_IndexFunc_127_L0_step l0 n1 b2 n3 n4 n5 n6 n7 s).bind (rndE A X R) := by
  simp only [slices_IndexFunc_127_L0_step, slices_IndexFunc_127_L0_K, Option.bind_assoc, Option.bind_some, Option.bind_none, cond_bind, sumK_bind, rndE_again, rndE_exit, rndE_ret]
def slices_IndexFunc_127_L0_st (p : List GWord × Int × Bool × Int × Int × Int × Int × Int) (s : Int) : List V × Heap Row := ([.c (.sl 0 0), .c (.fn 127 [1]), .c (.int .i64 (p.2.2.2.2.2.2.2)), .c (.int .i64 (s))], [⟨.row ⟨.word, p.1⟩, 0, 1⟩, ⟨.box [.int .i64 (p.2.1), .bool (p.2.2.1), .int .i64 (p.2.2.2.1), .int .i64 (p.2.2.2.2.1), .int .i64 (p.2.2.2.2.2.1), .int .i64 (p.2.2.2.2.2.2.1)], 0, 1⟩])
def slices_IndexFunc_127_L0_so (p : List GWord × Int × Bool × Int × Int × Int × Int × Int) (t : Unit) : List V × Heap Row := ([], [⟨.row ⟨.word, p.1⟩, 0, 1⟩, ⟨.box [.int .i64 (p.2.1), .bool (p.2.2.1), .int .i64 (p.2.2.2.1), .int .i64 (p.2.2.2.2.1), .int .i64 (p.2.2.2.2.2.1), .int .i64 (p.2.2.2.2.2.2.1)], 0, 1⟩])
def slices_IndexFunc_127_L0_sr (p : List GWord × Int × Bool × Int × Int × Int × Int × Int) (k : Int) : List V × Heap Row := ([.c (.int .i64 (k))], [⟨.row ⟨.word, p.1⟩, 0, 1⟩, ⟨.box [.int .i64 (p.2.1), .bool (p.2.2.1), .int .i64 (p.2.2.2.1), .int .i64 (p.2.2.2.2.1), .int .i64 (p.2.2.2.2.2.1), .int .i64 (p.2.2.2.2.2.2.1)], 0, 1⟩])
def slices_IndexFunc_127_L0_D : List V → Heap Row → Option ((List GWord × Int × Bool × Int × Int × Int × Int × Int) × (Int))
  | [.c (.sl 0 0), .c (.fn 127 [1]), .c (.int .i64 v1), .c (.int .i64 v2)], [⟨.row ⟨.word, v3⟩, 0, 1⟩, ⟨.box [.int .i64 v4, .bool v5, .int .i64 v6, .int .i64 v7, .int .i64 v8, .int .i64 v9], 0, 1⟩] => some ((v3, v4, v5, v6, v7, v8, v9, v1), (v2))
  | _, _ => none
theorem slices_IndexFunc_127_L0_D_ok (vs : List V) (L : Heap Row) (p : List GWord × Int × Bool × Int × Int × Int × Int × Int) (s : Int) (h : slices_IndexFunc_127_L0_D vs L = some (p, s)) : slices_IndexFunc_127_L0_st p s = (vs, L) := by
  unfold slices_IndexFunc_127_L0_D at h
  split at h
  · simp at h; obtain ⟨rfl, rfl⟩ := h; rfl
  · simp at h
noncomputable def slices_IndexFunc_127_L0_H : LoopH Row := loopR [0, 1, 7, 8] [] slices_IndexFunc_127_L0_D (fun p => slices_IndexFunc_127_L0_step (p.1) (p.2.1) (p.2.2.1) (p.2.2.2.1) (p.2.2.2.2.1) (p.2.2.2.2.2.1) (p.2.2.2.2.2.2.1) (p.2.2.2.2.2.2.2)) slices_IndexFunc_127_L0_so slices_IndexFunc_127_L0_sr
theorem slices_IndexFunc_127_L0_nf (p : List GWord × Int × Bool × Int × Int × Int × Int × Int) (s : Int) (ρ : Type) (again Kx Kr : List V → Heap Row → Option ρ) : evRound rowU (envOf 196 2 [(127, impl_Unders_1_C)] [(0, slices_IndexFunc_127_L0_H)]) 0 slices_IndexFunc_127_L0_H (loopC 196 0) again (slices_IndexFunc_127_L0_st p s).1 (slices_IndexFunc_127_L0_st p s).2 Kx Kr = slices_IndexFunc_127_L0_K (p.1) (p.2.1) (p.2.2.1) (p.2.2.2.1) (p.2.2.2.2.1) (p.2.2.2.2.2.1) (p.2.2.2.2.2.2.1) (p.2.2.2.2.2.2.2) s (fun s => again (slices_IndexFunc_127_L0_st p s).1 (slices_IndexFunc_127_L0_st p s).2) (fun t => Kx (slices_IndexFunc_127_L0_so p t).1 (slices_IndexFunc_127_L0_so p t).2) (fun k => Kr (slices_IndexFunc_127_L0_sr p k).1 (slices_IndexFunc_127_L0_sr p k).2) := by kernel_rfl
theorem slices_IndexFunc_127_L0_ok (hb : LoopsOk Try.prog rowU (envOf 196 2 [(127, impl_Unders_1_C)] [(0, slices_IndexFunc_127_L0_H)]) (loopAt (codeP 196) 0)) : LoopOk Try.prog rowU (envOf 196 2 [(127, impl_Unders_1_C)] [(0, slices_IndexFunc_127_L0_H)]) 0 (loopAt (codeP 196) 0) slices_IndexFunc_127_L0_H :=
  loopR_ok tagOk mixed envNl (envT (TabOk.cons impl_Unders_1_ok TabOk.nil)) hb slices_IndexFunc_127_L0_st slices_IndexFunc_127_L0_D_ok fun p s ρ A Kx Kr => (slices_IndexFunc_127_L0_nf p s ρ A Kx Kr).trans (slices_IndexFunc_127_L0_bind (p.1) (p.2.1) (p.2.2.1) (p.2.2.2.1) (p.2.2.2.2.1) (p.2.2.2.2.2.1) (p.2.2.2.2.2.2.1) (p.2.2.2.2.2.2.2) s _ _ _)
noncomputable def slices_IndexFunc_127_K (x0 : List GWord) (c1_0_0 : Int) (c1_0_1 : Bool) (c1_0_2 : Int) (c1_0_3 : Int) (c1_0_4 : Int) (c1_0_5 : Int) {ρ : Type} (K : Int → Option ρ) : Option ρ :=
  Option.bind (runL (slices_IndexFunc_127_L0_step x0 c1_0_0 c1_0_1 c1_0_2 c1_0_3 c1_0_4 c1_0_5 (((x0.length : Nat) : Int))) 0) fun ot2 => sumK ot2
    (fun t2 => K (-1))
    (fun k3 => K k3)
noncomputable def slices_IndexFunc_127 (x0 : List GWord) (c1_0_0 : Int) (c1_0_1 : Bool) (c1_0_2 : Int) (c1_0_3 : Int) (c1_0_4 : Int) (c1_0_5 : Int) : Option (Int) := slices_IndexFunc_127_K x0 c1_0_0 c1_0_1 c1_0_2 c1_0_3 c1_0_4 c1_0_5 some
theorem slices_IndexFunc_127_bind (x0 : List GWord) (c1_0_0 : Int) (c1_0_1 : Bool) (c1_0_2 : Int) (c1_0_3 : Int) (c1_0_4 : Int) (c1_0_5 : Int) {ρ : Type} (K : Int → Option ρ) : slices_IndexFunc_127_K x0 c1_0_0 c1_0_1 c1_0_2 c1_0_3 c1_0_4 c1_0_5 K = (slices_IndexFunc_127 x0 c1_0_0 c1_0_1 c1_0_2 c1_0_3 c1_0_4 c1_0_5).bind K := by
  simp only [slices_IndexFunc_127, slices_IndexFunc_127_K, Option.bind_assoc, Option.bind_some, Option.bind_none, cond_bind, sumK_bind]
noncomputable def slices_IndexFunc_127_E : Env Row := envN false 196 2 [(127, impl_Unders_1_C)] [(0, slices_IndexFunc_127_L0_H)]
theorem slices_IndexFunc_127_nf (x0 : List GWord) (c1_0_0 : Int) (c1_0_1 : Bool) (c1_0_2 : Int) (c1_0_3 : Int) (c1_0_4 : Int) (c1_0_5 : Int) (ρ : Type) (K : V → Heap Row → Option ρ) : evBody rowU slices_IndexFunc_127_E (bodyC 196) [.c (.sl 0 0), .c (.fn 127 [1])] [⟨.row ⟨.word, x0⟩, 0, 1⟩, ⟨.box [.int .i64 c1_0_0, .bool c1_0_1, .int .i64 c1_0_2, .int .i64 c1_0_3, .int .i64 c1_0_4, .int .i64 c1_0_5], 0, 1⟩] K = slices_IndexFunc_127_K x0 c1_0_0 c1_0_1 c1_0_2 c1_0_3 c1_0_4 c1_0_5 (fun r => K (.c (.int .i64 r)) [⟨.row ⟨.word, x0⟩, 0, 1⟩, ⟨.box [.int .i64 c1_0_0, .bool c1_0_1, .int .i64 c1_0_2, .int .i64 c1_0_3, .int .i64 c1_0_4, .int .i64 c1_0_5], 0, 1⟩]) := by kernel_rfl
def slices_IndexFunc_127_D : List V → Heap Row → Option (List GWord × Int × Bool × Int × Int × Int × Int)
  | [.c (.sl 0 0), .c (.fn 127 [1])], [⟨.row ⟨.word, v1⟩, 0, 1⟩, ⟨.box [.int .i64 v2, .bool v3, .int .i64 v4, .int .i64 v5, .int .i64 v6, .int .i64 v7], 0, 1⟩] => some (v1, v2, v3, v4, v5, v6, v7)
  | _, _ => none
theorem slices_IndexFunc_127_D_ok {vs : List V} {W : Heap Row} {a : List GWord × Int × Bool × Int × Int × Int × Int} (h : slices_IndexFunc_127_D vs W = some a) : vs = [.c (.sl 0 0), .c (.fn 127 [1])] ∧ W = [⟨.row ⟨.word, a.1⟩, 0, 1⟩, ⟨.box [.int .i64 (a.2.1), .bool (a.2.2.1), .int .i64 (a.2.2.2.1), .int .i64 (a.2.2.2.2.1), .int .i64 (a.2.2.2.2.2.1), .int .i64 (a.2.2.2.2.2.2)], 0, 1⟩] := by
  unfold slices_IndexFunc_127_D at h
  split at h
  · simp at h; subst h; exact ⟨rfl, rfl⟩
  · simp at h
noncomputable def slices_IndexFunc_127_C : Callee Row := ⟨[(false, 0), (false, 6)], fun _ vs W K => (slices_IndexFunc_127_D vs W).bind fun a => (slices_IndexFunc_127 a.1 a.2.1 a.2.2.1 a.2.2.2.1 a.2.2.2.2.1 a.2.2.2.2.2.1 a.2.2.2.2.2.2).bind fun r => K (.c (.int .i64 r)) [⟨.row ⟨.word, a.1⟩, 0, 1⟩, ⟨.box [.int .i64 (a.2.1), .bool (a.2.2.1), .int .i64 (a.2.2.2.1), .int .i64 (a.2.2.2.2.1), .int .i64 (a.2.2.2.2.2.1), .int .i64 (a.2.2.2.2.2.2)], 0, 1⟩]⟩
theorem slices_IndexFunc_127_ok : CalleeOk Try.prog rowU 196 slices_IndexFunc_127_C := by
  refine calleeP (nl := false) (m0 := 2) (T := [(127, impl_Unders_1_C)]) (H := [(0, slices_IndexFunc_127_L0_H)]) (TabOk.cons impl_Unders_1_ok TabOk.nil) (by kernel_rfl) (by kernel_rfl) (fun p hp hb => by
    simp only [List.mem_cons, List.not_mem_nil, or_false] at hp
    subst hp
    exact slices_IndexFunc_127_L0_ok hb) fun ρ vs W K r h => ?_
  obtain ⟨a, ha, h1⟩ := Option.bind_eq_some_iff.1 h
  clear h
  obtain ⟨rfl, rfl⟩ := slices_IndexFunc_127_D_ok ha
  obtain ⟨q, hq, h2⟩ := Option.bind_eq_some_iff.1 h1
  exact ⟨_, _, h2, (slices_IndexFunc_127_nf (a.1) (a.2.1) (a.2.2.1) (a.2.2.2.1) (a.2.2.2.2.1) (a.2.2.2.2.2.1) (a.2.2.2.2.2.2) _ _).trans ((slices_IndexFunc_127_bind (a.1) (a.2.1) (a.2.2.1) (a.2.2.2.1) (a.2.2.2.2.1) (a.2.2.2.2.2.1) (a.2.2.2.2.2.2) _).trans (by rw [hq]; rfl))⟩
/-! slices.ContainsFunc[[]loop.example/g00249/impl.Word,loop.example/g00249/impl.Word] -/
noncomputable def slices_ContainsFunc_127_K (x0 : List GWord) (c1_0_0 : Int) (c1_0_1 : Bool) (c1_0_2 : Int) (c1_0_3 : Int) (c1_0_4 : Int) (c1_0_5 : Int) {ρ : Type} (K : Bool → Option ρ) : Option ρ :=
  Option.bind (slices_IndexFunc_127 x0 c1_0_0 c1_0_1 c1_0_2 c1_0_3 c1_0_4 c1_0_5) fun r1 =>
  K (decide (r1 ≥ 0))
noncomputable def slices_ContainsFunc_127 (x0 : List GWord) (c1_0_0 : Int) (c1_0_1 : Bool) (c1_0_2 : Int) (c1_0_3 : Int) (c1_0_4 : Int) (c1_0_5 : Int) : Option (Bool) := slices_ContainsFunc_127_K x0 c1_0_0 c1_0_1 c1_0_2 c1_0_3 c1_0_4 c1_0_5 some
theorem slices_ContainsFunc_127_bind (x0 : List GWord) (c1_0_0 : Int) (c1_0_1 : Bool) (c1_0_2 : Int) (c1_0_3 : Int) (c1_0_4 : Int) (c1_0_5 : Int) {ρ : Type} (K : Bool → Option ρ) : slices_ContainsFunc_127_K x0 c1_0_0 c1_0_1 c1_0_2 c1_0_3 c1_0_4 c1_0_5 K = (slices_ContainsFunc_127 x0 c1_0_0 c1_0_1 c1_0_2 c1_0_3 c1_0_4 c1_0_5).bind K := by
  simp only [slices_ContainsFunc_127, slices_ContainsFunc_127_K, Option.bind_assoc, Option.bind_some, Option.bind_none, cond_bind, sumK_bind]
noncomputable def slices_ContainsFunc_127_E : Env Row := envN false 113 2 [(196, slices_IndexFunc_127_C)] []
theorem slices_ContainsFunc_127_nf (x0 : List GWord) (c1_0_0 : Int) (c1_0_1 : Bool) (c1_0_2 : Int) (c1_0_3 : Int) (c1_0_4 : Int) (c1_0_5 : Int) (ρ : Type) (K : V → Heap Row → Option ρ) : evBody rowU slices_ContainsFunc_127_E (bodyC 113) [.c (.sl 0 0), .c (.fn 127 [1])] [⟨.row ⟨.word, x0⟩, 0, 1⟩, ⟨.box [.int .i64 c1_0_0, .bool c1_0_1, .int .i64 c1_0_2, .int .i64 c1_0_3, .int .i64 c1_0_4, .int .i64 c1_0_5], 0, 1⟩] K = slices_ContainsFunc_127_K x0 c1_0_0 c1_0_1 c1_0_2 c1_0_3 c1_0_4 c1_0_5 (fun r => K (.c (.bool r)) [⟨.row ⟨.word, x0⟩, 0, 1⟩, ⟨.box [.int .i64 c1_0_0, .bool c1_0_1, .int .i64 c1_0_2, .int .i64 c1_0_3, .int .i64 c1_0_4, .int .i64 c1_0_5], 0, 1⟩]) := by kernel_rfl
def slices_ContainsFunc_127_D : List V → Heap Row → Option (List GWord × Int × Bool × Int × Int × Int × Int)
  | [.c (.sl 0 0), .c (.fn 127 [1])], [⟨.row ⟨.word, v1⟩, 0, 1⟩, ⟨.box [.int .i64 v2, .bool v3, .int .i64 v4, .int .i64 v5, .int .i64 v6, .int .i64 v7], 0, 1⟩] => some (v1, v2, v3, v4, v5, v6, v7)
  | _, _ => none
theorem slices_ContainsFunc_127_D_ok {vs : List V} {W : Heap Row} {a : List GWord × Int × Bool × Int × Int × Int × Int} (h : slices_ContainsFunc_127_D vs W = some a) : vs = [.c (.sl 0 0), .c (.fn 127 [1])] ∧ W = [⟨.row ⟨.word, a.1⟩, 0, 1⟩, ⟨.box [.int .i64 (a.2.1), .bool (a.2.2.1), .int .i64 (a.2.2.2.1), .int .i64 (a.2.2.2.2.1), .int .i64 (a.2.2.2.2.2.1), .int .i64 (a.2.2.2.2.2.2)], 0, 1⟩] := by
  unfold slices_ContainsFunc_127_D at h
  split at h
  · simp at h; subst h; exact ⟨rfl, rfl⟩
  · simp at h
noncomputable def slices_ContainsFunc_127_C : Callee Row := ⟨[(false, 0), (false, 6)], fun _ vs W K => (slices_ContainsFunc_127_D vs W).bind fun a => (slices_ContainsFunc_127 a.1 a.2.1 a.2.2.1 a.2.2.2.1 a.2.2.2.2.1 a.2.2.2.2.2.1 a.2.2.2.2.2.2).bind fun r => K (.c (.bool r)) [⟨.row ⟨.word, a.1⟩, 0, 1⟩, ⟨.box [.int .i64 (a.2.1), .bool (a.2.2.1), .int .i64 (a.2.2.2.1), .int .i64 (a.2.2.2.2.1), .int .i64 (a.2.2.2.2.2.1), .int .i64 (a.2.2.2.2.2.2)], 0, 1⟩]⟩
theorem slices_ContainsFunc_127_ok : CalleeOk Try.prog rowU 113 slices_ContainsFunc_127_C := by
  refine calleeP (nl := false) (m0 := 2) (T := [(196, slices_IndexFunc_127_C)]) (H := []) (TabOk.cons slices_IndexFunc_127_ok TabOk.nil) (by kernel_rfl) (by kernel_rfl) (fun p hp => nomatch hp) fun ρ vs W K r h => ?_
  obtain ⟨a, ha, h1⟩ := Option.bind_eq_some_iff.1 h
  clear h
  obtain ⟨rfl, rfl⟩ := slices_ContainsFunc_127_D_ok ha
  obtain ⟨q, hq, h2⟩ := Option.bind_eq_some_iff.1 h1
  exact ⟨_, _, h2, (slices_ContainsFunc_127_nf (a.1) (a.2.1) (a.2.2.1) (a.2.2.2.1) (a.2.2.2.2.1) (a.2.2.2.2.2.1) (a.2.2.2.2.2.2) _ _).trans ((slices_ContainsFunc_127_bind (a.1) (a.2.1) (a.2.2.1) (a.2.2.2.1) (a.2.2.2.2.1) (a.2.2.2.2.2.1) (a.2.2.2.2.2.2) _).trans (by rw [hq]; rfl))⟩
/-! loop.example/g00249/impl.Unders -/
noncomputable def impl_Unders_K (x0 : GWord) (x1 : List GWord) {ρ : Type} (K : Bool → Option ρ) : Option ρ :=
  cond ((!x0.is) == false)
    (Option.bind (slices_ContainsFunc_127 x1 x0.n x0.is x0.key.base x0.key.top x0.key.perms x0.key.seal_) fun r1 =>
    K r1)
    (K true)
noncomputable def impl_Unders (x0 : GWord) (x1 : List GWord) : Option (Bool) := impl_Unders_K x0 x1 some
theorem impl_Unders_bind (x0 : GWord) (x1 : List GWord) {ρ : Type} (K : Bool → Option ρ) : impl_Unders_K x0 x1 K = (impl_Unders x0 x1).bind K := by
  simp only [impl_Unders, impl_Unders_K, Option.bind_assoc, Option.bind_some, Option.bind_none, cond_bind, sumK_bind]
noncomputable def impl_Unders_E : Env Row := envN false 33 1 [(113, slices_ContainsFunc_127_C)] []
theorem impl_Unders_nf (x0 : GWord) (x1 : List GWord) (ρ : Type) (K : V → Heap Row → Option ρ) : evBody rowU impl_Unders_E (bodyC 33) [.a [.int .i64 x0.n, .bool x0.is, .int .i64 x0.key.base, .int .i64 x0.key.top, .int .i64 x0.key.perms, .int .i64 x0.key.seal_], .c (.sl 0 0)] [⟨.row ⟨.word, x1⟩, 0, 1⟩] K = impl_Unders_K x0 x1 (fun r => K (.c (.bool r)) [⟨.row ⟨.word, x1⟩, 0, 1⟩]) := by kernel_rfl
def impl_Unders_D : List V → Heap Row → Option (GWord × List GWord)
  | [.a (.int .i64 v1 :: .bool v2 :: .int .i64 v3 :: .int .i64 v4 :: .int .i64 v5 :: .int .i64 v6 :: []), .c (.sl 0 0)], [⟨.row ⟨.word, v7⟩, 0, 1⟩] => some (⟨v1, v2, ⟨v3, v4, v5, v6⟩⟩, v7)
  | _, _ => none
theorem impl_Unders_D_ok {vs : List V} {W : Heap Row} {a : GWord × List GWord} (h : impl_Unders_D vs W = some a) : vs = [.a [.int .i64 (a.1).n, .bool (a.1).is, .int .i64 (a.1).key.base, .int .i64 (a.1).key.top, .int .i64 (a.1).key.perms, .int .i64 (a.1).key.seal_], .c (.sl 0 0)] ∧ W = [⟨.row ⟨.word, a.2⟩, 0, 1⟩] := by
  unfold impl_Unders_D at h
  split at h
  · simp at h; subst h; exact ⟨rfl, rfl⟩
  · simp at h
noncomputable def impl_Unders_C : Callee Row := ⟨[(false, 0)], fun _ vs W K => (impl_Unders_D vs W).bind fun a => (impl_Unders a.1 a.2).bind fun r => K (.c (.bool r)) [⟨.row ⟨.word, a.2⟩, 0, 1⟩]⟩
theorem impl_Unders_ok : CalleeOk Try.prog rowU 33 impl_Unders_C := by
  refine calleeP (nl := false) (m0 := 1) (T := [(113, slices_ContainsFunc_127_C)]) (H := []) (TabOk.cons slices_ContainsFunc_127_ok TabOk.nil) (by kernel_rfl) (by kernel_rfl) (fun p hp => nomatch hp) fun ρ vs W K r h => ?_
  obtain ⟨a, ha, h1⟩ := Option.bind_eq_some_iff.1 h
  clear h
  obtain ⟨rfl, rfl⟩ := impl_Unders_D_ok ha
  obtain ⟨q, hq, h2⟩ := Option.bind_eq_some_iff.1 h1
  exact ⟨_, _, h2, (impl_Unders_nf (a.1) (a.2) _ _).trans ((impl_Unders_bind (a.1) (a.2) _).trans (by rw [hq]; rfl))⟩
/-! loop.example/g00249/laws.FnReached -/
noncomputable def laws_FnReached_L0_K (l0 : List Int) (l1 : List GWord) (l2 : List GWord) (l3 : List GWord) (l4 : List Bool) (n5 : Int) {ρ : Type} (A : Int → Option ρ) (X : Unit → Option ρ) (R : Unit → Option ρ) : Option ρ :=
  cond (decide (n5 < (((l1.length : Nat) : Int))))
    (cond (decide (0 ≤ n5)) (cond (decide (n5 < (((l1.length : Nat) : Int)))) (Option.bind (impl_WordOk (List.getD l1 (n5.toNat) (default))) fun r18 =>
    cond (r18 == true)
      (cond (decide (0 ≤ n5)) (cond (decide (n5 < (((l1.length : Nat) : Int)))) (Option.bind (impl_Unders (List.getD l1 (n5.toNat) (default)) l2) fun r19 =>
      cond (!r19)
        (R ())
        (A (w64 (n5 + 1)))) none) none)
      (A (w64 (n5 + 1)))) none) none)
    (X ())
noncomputable def laws_FnReached_L0_step (l0 : List Int) (l1 : List GWord) (l2 : List GWord) (l3 : List GWord) (l4 : List Bool) (s : Int) : Option (Rnd (Int) (Unit) (Unit)) := laws_FnReached_L0_K l0 l1 l2 l3 l4 s (fun s => some (.again s)) (fun t => some (.exit t)) (fun k => some (.ret k))
theorem laws_FnReached_L0_bind (l0 : List Int) (l1 : List GWord) (l2 : List GWord) (l3 : List GWord) (l4 : List Bool) (s : Int) {ρ : Type} (A : Int → Option ρ) (X : Unit → Option ρ) (R : Unit → Option ρ) : laws_FnReached_L0_K l0 l1 l2 l3 l4 s A X R = (laws_FnReached_L0_step l0 l1 l2 l3 l4 s).bind (rndE A X R) := by
  simp only [laws_FnReached_L0_step, laws_FnReached_L0_K, Option.bind_assoc, Option.bind_some, Option.bind_none, cond_bind, sumK_bind, rndE_again, rndE_exit, rndE_ret]
def laws_FnReached_L0_st (p : List Int × List GWord × List GWord × List GWord × List Bool) (s : Int) : List V × Heap Row := ([.c (.ptr 1 0), .c (.sl 2 0), .c (.sl 3 0), .c (.int .i64 (s))], [⟨.row ⟨.byte, p.1⟩, 0, 1⟩, ⟨.box [.sl 4 0, .sl 5 0], 0, 2⟩, ⟨.row ⟨.word, p.2.1⟩, 0, 2⟩, ⟨.row ⟨.word, p.2.2.1⟩, 0, 2⟩, ⟨.row ⟨.word, p.2.2.2.1⟩, 0, 2⟩, ⟨.row ⟨.bool, p.2.2.2.2⟩, 0, 2⟩])
def laws_FnReached_L0_so (p : List Int × List GWord × List GWord × List GWord × List Bool) (t : Unit) : List V × Heap Row := ([.c (.ptr 1 0), .c (.sl 2 0)], [⟨.row ⟨.byte, p.1⟩, 0, 1⟩, ⟨.box [.sl 3 0, .sl 4 0], 0, 2⟩, ⟨.row ⟨.word, p.2.2.1⟩, 0, 2⟩, ⟨.row ⟨.word, p.2.2.2.1⟩, 0, 2⟩, ⟨.row ⟨.bool, p.2.2.2.2⟩, 0, 2⟩])
def laws_FnReached_L0_sr (p : List Int × List GWord × List GWord × List GWord × List Bool) (k : Unit) : List V × Heap Row := ([.c (.bool false)], [⟨.row ⟨.byte, p.1⟩, 0, 1⟩])
def laws_FnReached_L0_D : List V → Heap Row → Option ((List Int × List GWord × List GWord × List GWord × List Bool) × (Int))
  | [.c (.ptr 1 0), .c (.sl 2 0), .c (.sl 3 0), .c (.int .i64 v1)], [⟨.row ⟨.byte, v2⟩, 0, 1⟩, ⟨.box [.sl 4 0, .sl 5 0], 0, 2⟩, ⟨.row ⟨.word, v3⟩, 0, 2⟩, ⟨.row ⟨.word, v4⟩, 0, 2⟩, ⟨.row ⟨.word, v5⟩, 0, 2⟩, ⟨.row ⟨.bool, v6⟩, 0, 2⟩] => some ((v2, v3, v4, v5, v6), (v1))
  | _, _ => none
theorem laws_FnReached_L0_D_ok (vs : List V) (L : Heap Row) (p : List Int × List GWord × List GWord × List GWord × List Bool) (s : Int) (h : laws_FnReached_L0_D vs L = some (p, s)) : laws_FnReached_L0_st p s = (vs, L) := by
  unfold laws_FnReached_L0_D at h
  split at h
  · simp at h; obtain ⟨rfl, rfl⟩ := h; rfl
  · simp at h
noncomputable def laws_FnReached_L0_H : LoopH Row := loopR [3, 4, 5, 12] [3, 5] laws_FnReached_L0_D (fun p => laws_FnReached_L0_step (p.1) (p.2.1) (p.2.2.1) (p.2.2.2.1) (p.2.2.2.2)) laws_FnReached_L0_so laws_FnReached_L0_sr
theorem laws_FnReached_L0_nf (p : List Int × List GWord × List GWord × List GWord × List Bool) (s : Int) (ρ : Type) (again Kx Kr : List V → Heap Row → Option ρ) : evRound rowU (envOf 3 1 [(16, laws_big_C), (17, spec_DrawClosure_C), (32, impl_WordOk_C), (31, impl_MemoryOk_C), (18, impl_Closure_C), (19, spec_DrawLoadCells_C), (20, spec_DrawStoreCells_C), (21, spec_DrawCanSeal_C), (23, spec_Closure_C), (22, laws_sameWords_C), (25, impl_LoadCells_C), (26, spec_LoadCells_C), (24, laws_sameInts_C), (27, impl_StoreCells_C), (28, spec_StoreCells_C), (29, impl_CanSeal_C), (30, spec_CanSeal_C), (33, impl_Unders_C)] [(0, laws_FnReached_L0_H)]) 0 laws_FnReached_L0_H (loopC 3 0) again (laws_FnReached_L0_st p s).1 (laws_FnReached_L0_st p s).2 Kx Kr = laws_FnReached_L0_K (p.1) (p.2.1) (p.2.2.1) (p.2.2.2.1) (p.2.2.2.2) s (fun s => again (laws_FnReached_L0_st p s).1 (laws_FnReached_L0_st p s).2) (fun t => Kx (laws_FnReached_L0_so p t).1 (laws_FnReached_L0_so p t).2) (fun k => Kr (laws_FnReached_L0_sr p k).1 (laws_FnReached_L0_sr p k).2) := by kernel_rfl
theorem laws_FnReached_L0_ok (hb : LoopsOk Try.prog rowU (envOf 3 1 [(16, laws_big_C), (17, spec_DrawClosure_C), (32, impl_WordOk_C), (31, impl_MemoryOk_C), (18, impl_Closure_C), (19, spec_DrawLoadCells_C), (20, spec_DrawStoreCells_C), (21, spec_DrawCanSeal_C), (23, spec_Closure_C), (22, laws_sameWords_C), (25, impl_LoadCells_C), (26, spec_LoadCells_C), (24, laws_sameInts_C), (27, impl_StoreCells_C), (28, spec_StoreCells_C), (29, impl_CanSeal_C), (30, spec_CanSeal_C), (33, impl_Unders_C)] [(0, laws_FnReached_L0_H)]) (loopAt (codeP 3) 0)) : LoopOk Try.prog rowU (envOf 3 1 [(16, laws_big_C), (17, spec_DrawClosure_C), (32, impl_WordOk_C), (31, impl_MemoryOk_C), (18, impl_Closure_C), (19, spec_DrawLoadCells_C), (20, spec_DrawStoreCells_C), (21, spec_DrawCanSeal_C), (23, spec_Closure_C), (22, laws_sameWords_C), (25, impl_LoadCells_C), (26, spec_LoadCells_C), (24, laws_sameInts_C), (27, impl_StoreCells_C), (28, spec_StoreCells_C), (29, impl_CanSeal_C), (30, spec_CanSeal_C), (33, impl_Unders_C)] [(0, laws_FnReached_L0_H)]) 0 (loopAt (codeP 3) 0) laws_FnReached_L0_H :=
  loopR_ok tagOk mixed envNl (envT (TabOk.cons laws_big_ok (TabOk.cons spec_DrawClosure_ok (TabOk.cons impl_WordOk_ok (TabOk.cons impl_MemoryOk_ok (TabOk.cons impl_Closure_ok (TabOk.cons spec_DrawLoadCells_ok (TabOk.cons spec_DrawStoreCells_ok (TabOk.cons spec_DrawCanSeal_ok (TabOk.cons spec_Closure_ok (TabOk.cons laws_sameWords_ok (TabOk.cons impl_LoadCells_ok (TabOk.cons spec_LoadCells_ok (TabOk.cons laws_sameInts_ok (TabOk.cons impl_StoreCells_ok (TabOk.cons spec_StoreCells_ok (TabOk.cons impl_CanSeal_ok (TabOk.cons spec_CanSeal_ok (TabOk.cons impl_Unders_ok TabOk.nil))))))))))))))))))) hb laws_FnReached_L0_st laws_FnReached_L0_D_ok fun p s ρ A Kx Kr => (laws_FnReached_L0_nf p s ρ A Kx Kr).trans (laws_FnReached_L0_bind (p.1) (p.2.1) (p.2.2.1) (p.2.2.2.1) (p.2.2.2.2) s _ _ _)
noncomputable def laws_FnReached_K (x0 : List Int) {ρ : Type} (K : Bool → Option ρ) : Option ρ :=
  Option.bind (laws_big x0) fun r1 =>
  cond r1
    (K true)
    (Option.bind (spec_DrawClosure x0) fun r2 =>
    Option.bind (impl_Closure r2.1 r2.2) fun r3 =>
    Option.bind (spec_DrawLoadCells x0) fun r4 =>
    Option.bind (spec_DrawStoreCells x0) fun r5 =>
    Option.bind (spec_DrawCanSeal x0) fun r6 =>
    Option.bind (spec_Closure r2.1 r2.2) fun r7 =>
    Option.bind (laws_sameWords r3 r7) fun r8 =>
    cond ((!r8) == false)
      (Option.bind (impl_LoadCells r4.1 r4.2) fun r9 =>
      Option.bind (spec_LoadCells r4.1 r4.2) fun r10 =>
      Option.bind (laws_sameInts r9 r10) fun r11 =>
      cond ((!r11) == false)
        (Option.bind (impl_StoreCells r5.1 r5.2) fun r12 =>
        Option.bind (spec_StoreCells r5.1 r5.2) fun r13 =>
        Option.bind (laws_sameInts r12 r13) fun r14 =>
        cond ((!r14) == false)
          (Option.bind (impl_CanSeal r6.1 r6.2) fun r15 =>
          Option.bind (spec_CanSeal r6.1 r6.2) fun r16 =>
          cond (!(r15 == r16))
            (K false)
            (Option.bind (impl_MemoryOk r2.1) fun r17 =>
            cond (!r17)
              (K ((((r3.length : Nat) : Int)) == 0))
              (Option.bind (runL (laws_FnReached_L0_step x0 r2.2 r3 r2.1.words r2.1.gone) 0) fun ot20 => sumK ot20
                (fun t20 => Option.bind (impl_Closure r2.1 r3) fun r22 =>
                Option.bind (laws_sameWords r22 r3) fun r23 =>
                K r23)
                (fun k21 => K false))))
          (K false))
        (K false))
      (K false))
noncomputable def laws_FnReached (x0 : List Int) : Option (Bool) := laws_FnReached_K x0 some
theorem laws_FnReached_bind (x0 : List Int) {ρ : Type} (K : Bool → Option ρ) : laws_FnReached_K x0 K = (laws_FnReached x0).bind K := by
  simp only [laws_FnReached, laws_FnReached_K, Option.bind_assoc, Option.bind_some, Option.bind_none, cond_bind, sumK_bind]
noncomputable def laws_FnReached_E : Env Row := envN false 3 1 [(16, laws_big_C), (17, spec_DrawClosure_C), (32, impl_WordOk_C), (31, impl_MemoryOk_C), (18, impl_Closure_C), (19, spec_DrawLoadCells_C), (20, spec_DrawStoreCells_C), (21, spec_DrawCanSeal_C), (23, spec_Closure_C), (22, laws_sameWords_C), (25, impl_LoadCells_C), (26, spec_LoadCells_C), (24, laws_sameInts_C), (27, impl_StoreCells_C), (28, spec_StoreCells_C), (29, impl_CanSeal_C), (30, spec_CanSeal_C), (33, impl_Unders_C)] [(0, laws_FnReached_L0_H)]
theorem laws_FnReached_nf (x0 : List Int) (ρ : Type) (K : V → Heap Row → Option ρ) : evBody rowU laws_FnReached_E (bodyC 3) [.c (.sl 0 0)] [⟨.row ⟨.byte, x0⟩, 0, 1⟩] K = laws_FnReached_K x0 (fun r => K (.c (.bool r)) [⟨.row ⟨.byte, x0⟩, 0, 1⟩]) := by kernel_rfl
def laws_FnReached_D : List V → Heap Row → Option (List Int)
  | [.c (.sl 0 0)], [⟨.row ⟨.byte, v1⟩, 0, 1⟩] => some (v1)
  | _, _ => none
theorem laws_FnReached_D_ok {vs : List V} {W : Heap Row} {a : List Int} (h : laws_FnReached_D vs W = some a) : vs = [.c (.sl 0 0)] ∧ W = [⟨.row ⟨.byte, a⟩, 0, 1⟩] := by
  unfold laws_FnReached_D at h
  split at h
  · simp at h; subst h; exact ⟨rfl, rfl⟩
  · simp at h
noncomputable def laws_FnReached_C : Callee Row := ⟨[(false, 0)], fun _ vs W K => (laws_FnReached_D vs W).bind fun a => (laws_FnReached a).bind fun r => K (.c (.bool r)) [⟨.row ⟨.byte, a⟩, 0, 1⟩]⟩
theorem laws_FnReached_ok : CalleeOk Try.prog rowU 3 laws_FnReached_C := by
  refine calleeP (nl := false) (m0 := 1) (T := [(16, laws_big_C), (17, spec_DrawClosure_C), (32, impl_WordOk_C), (31, impl_MemoryOk_C), (18, impl_Closure_C), (19, spec_DrawLoadCells_C), (20, spec_DrawStoreCells_C), (21, spec_DrawCanSeal_C), (23, spec_Closure_C), (22, laws_sameWords_C), (25, impl_LoadCells_C), (26, spec_LoadCells_C), (24, laws_sameInts_C), (27, impl_StoreCells_C), (28, spec_StoreCells_C), (29, impl_CanSeal_C), (30, spec_CanSeal_C), (33, impl_Unders_C)]) (H := [(0, laws_FnReached_L0_H)]) (TabOk.cons laws_big_ok (TabOk.cons spec_DrawClosure_ok (TabOk.cons impl_WordOk_ok (TabOk.cons impl_MemoryOk_ok (TabOk.cons impl_Closure_ok (TabOk.cons spec_DrawLoadCells_ok (TabOk.cons spec_DrawStoreCells_ok (TabOk.cons spec_DrawCanSeal_ok (TabOk.cons spec_Closure_ok (TabOk.cons laws_sameWords_ok (TabOk.cons impl_LoadCells_ok (TabOk.cons spec_LoadCells_ok (TabOk.cons laws_sameInts_ok (TabOk.cons impl_StoreCells_ok (TabOk.cons spec_StoreCells_ok (TabOk.cons impl_CanSeal_ok (TabOk.cons spec_CanSeal_ok (TabOk.cons impl_Unders_ok TabOk.nil)))))))))))))))))) (by kernel_rfl) (by kernel_rfl) (fun p hp hb => by
    simp only [List.mem_cons, List.not_mem_nil, or_false] at hp
    subst hp
    exact laws_FnReached_L0_ok hb) fun ρ vs W K r h => ?_
  obtain ⟨a, ha, h1⟩ := Option.bind_eq_some_iff.1 h
  clear h
  obtain ⟨rfl, rfl⟩ := laws_FnReached_D_ok ha
  obtain ⟨q, hq, h2⟩ := Option.bind_eq_some_iff.1 h1
  exact ⟨_, _, h2, (laws_FnReached_nf a _ _).trans ((laws_FnReached_bind a _).trans (by rw [hq]; rfl))⟩
end Go.Eng
