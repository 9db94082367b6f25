/- Functions of the program, as the evaluator tells them: printed by a program of ours. -/
import Derived.Test.YtkgeojjgcffebaaReachedFS
set_option linter.unusedVariables false
set_option linter.unusedSimpArgs false
set_option maxRecDepth 20000
namespace Go.Eng
open Go.Proofs
/-! loop.example/g00249/laws.big -/
def laws_big_K (x0 : List Int) {ρ : Type} (K : Bool → Option ρ) : Option ρ :=
  K (decide ((((x0.length : Nat) : Int)) > 1048576))
def laws_big (x0 : List Int) : Option (Bool) := laws_big_K x0 some
theorem laws_big_bind (x0 : List Int) {ρ : Type} (K : Bool → Option ρ) : laws_big_K x0 K = (laws_big x0).bind K := by
  simp only [laws_big, laws_big_K, Option.bind_assoc, Option.bind_some, Option.bind_none, cond_bind, sumK_bind]
noncomputable def laws_big_E : Env Row := envN false 16 1 [] []
theorem laws_big_nf (x0 : List Int) (ρ : Type) (K : V → Heap Row → Option ρ) : evBody rowU laws_big_E (bodyC 16) [.c (.sl 0 0)] [⟨.row ⟨.byte, x0⟩, 0, 1⟩] K = laws_big_K x0 (fun r => K (.c (.bool r)) [⟨.row ⟨.byte, x0⟩, 0, 1⟩]) := by kernel_rfl
def laws_big_D : List V → Heap Row → Option (List Int)
  | [.c (.sl 0 0)], [⟨.row ⟨.byte, v1⟩, 0, 1⟩] => some (v1)
  | _, _ => none
theorem laws_big_D_ok {vs : List V} {W : Heap Row} {a : List Int} (h : laws_big_D vs W = some a) : vs = [.c (.sl 0 0)] ∧ W = [⟨.row ⟨.byte, a⟩, 0, 1⟩] := by
  unfold laws_big_D at h
  split at h
  · simp at h; subst h; exact ⟨rfl, rfl⟩
  · simp at h
def laws_big_C : Callee Row := ⟨[(false, 0)], fun _ vs W K => (laws_big_D vs W).bind fun a => (laws_big a).bind fun r => K (.c (.bool r)) [⟨.row ⟨.byte, a⟩, 0, 1⟩]⟩
theorem laws_big_ok : CalleeOk Try.prog rowU 16 laws_big_C := by
  refine calleeP (nl := false) (m0 := 1) (T := []) (H := []) TabOk.nil (by kernel_rfl) (by kernel_rfl) (fun p hp => nomatch hp) fun ρ vs W K r h => ?_
  obtain ⟨a, ha, h1⟩ := Option.bind_eq_some_iff.1 h
  clear h
  obtain ⟨rfl, rfl⟩ := laws_big_D_ok ha
  obtain ⟨q, hq, h2⟩ := Option.bind_eq_some_iff.1 h1
  exact ⟨_, _, h2, (laws_big_nf a _ _).trans ((laws_big_bind a _).trans (by rw [hq]; rfl))⟩
/-! loop.example/g00249/spec.l1New -/
noncomputable def spec_l1New_L0_K (l0 : List Int) (n1 : Int) (n2 : Int) {ρ : Type} (A : Int × Int → Option ρ) (X : Int → Option ρ) (R : Unit → Option ρ) : Option ρ :=
  cond ((decide (n2 < (((l0.length : Nat) : Int)))) == true)
    (cond (decide (n2 < 4000))
      (cond (decide (0 ≤ n2)) (cond (decide (n2 < (((l0.length : Nat) : Int)))) (A (bits .and .i64 (w64 ((w64 ((w64 (n1 * 131)) + (w64 (List.getD l0 (n2.toNat) 0)))) + 7)) 1073741823, w64 (n2 + 1))) none) none)
      (X n1))
    (X n1)
noncomputable def spec_l1New_L0_step (l0 : List Int) (s : Int × Int) : Option (Rnd (Int × Int) (Int) (Unit)) := spec_l1New_L0_K l0 (s.1) (s.2) (fun s => some (.again s)) (fun t => some (.exit t)) (fun k => some (.ret k))
theorem spec_l1New_L0_bind (l0 : List Int) (s : Int × Int) {ρ : Type} (A : Int × Int → Option ρ) (X : Int → Option ρ) (R : Unit → Option ρ) : spec_l1New_L0_K l0 (s.1) (s.2) A X R = (spec_l1New_L0_step l0 s).bind (rndE A X R) := by
  simp only [spec_l1New_L0_step, spec_l1New_L0_K, Option.bind_assoc, Option.bind_some, Option.bind_none, cond_bind, sumK_bind, rndE_again, rndE_exit, rndE_ret]
def spec_l1New_L0_st (p : List Int) (s : Int × Int) : List V × Heap Row := ([.c (.sl 0 0), .c (.int .i64 (s.1)), .c (.int .i64 (s.2))], [⟨.row ⟨.byte, p⟩, 0, 1⟩])
def spec_l1New_L0_so (p : List Int) (t : Int) : List V × Heap Row := ([.c (.sl 0 0), .c (.int .i64 (t))], [⟨.row ⟨.byte, p⟩, 0, 1⟩])
def spec_l1New_L0_D : List V → Heap Row → Option ((List Int) × (Int × Int))
  | [.c (.sl 0 0), .c (.int .i64 v1), .c (.int .i64 v2)], [⟨.row ⟨.byte, v3⟩, 0, 1⟩] => some ((v3), (v1, v2))
  | _, _ => none
theorem spec_l1New_L0_D_ok (vs : List V) (L : Heap Row) (p : List Int) (s : Int × Int) (h : spec_l1New_L0_D vs L = some (p, s)) : spec_l1New_L0_st p s = (vs, L) := by
  unfold spec_l1New_L0_D at h
  split at h
  · simp at h; obtain ⟨rfl, rfl⟩ := h; rfl
  · simp at h
noncomputable def spec_l1New_L0_H : LoopH Row := loopX [0, 3, 4] [0, 3] spec_l1New_L0_D (fun p => spec_l1New_L0_step p) spec_l1New_L0_so
theorem spec_l1New_L0_nf (p : List Int) (s : Int × Int) (ρ : Type) (again Kx Kr : List V → Heap Row → Option ρ) : evRound rowU (envOf 108 1 [] [(0, spec_l1New_L0_H)]) 0 spec_l1New_L0_H (loopC 108 0) again (spec_l1New_L0_st p s).1 (spec_l1New_L0_st p s).2 Kx Kr = spec_l1New_L0_K p (s.1) (s.2) (fun s => again (spec_l1New_L0_st p s).1 (spec_l1New_L0_st p s).2) (fun t => Kx (spec_l1New_L0_so p t).1 (spec_l1New_L0_so p t).2) (fun _ => none) := by kernel_rfl
theorem spec_l1New_L0_ok (hb : LoopsOk Try.prog rowU (envOf 108 1 [] [(0, spec_l1New_L0_H)]) (loopAt (codeP 108) 0)) : LoopOk Try.prog rowU (envOf 108 1 [] [(0, spec_l1New_L0_H)]) 0 (loopAt (codeP 108) 0) spec_l1New_L0_H :=
  loopX_ok tagOk mixed envNl (envT TabOk.nil) hb spec_l1New_L0_st spec_l1New_L0_D_ok fun p s ρ A Kx Kr => (spec_l1New_L0_nf p s ρ A Kx Kr).trans (spec_l1New_L0_bind p s _ _ _)
noncomputable def spec_l1New_K (x0 : List Int) {ρ : Type} (K : GL1Cur → Option ρ) : Option ρ :=
  Option.bind (runX (spec_l1New_L0_step x0) (w64 (19220 + (((x0.length : Nat) : Int))), 0)) fun t1 =>
  K (⟨x0, 0, t1⟩ : GL1Cur)
noncomputable def spec_l1New (x0 : List Int) : Option (GL1Cur) := spec_l1New_K x0 some
theorem spec_l1New_bind (x0 : List Int) {ρ : Type} (K : GL1Cur → Option ρ) : spec_l1New_K x0 K = (spec_l1New x0).bind K := by
  simp only [spec_l1New, spec_l1New_K, Option.bind_assoc, Option.bind_some, Option.bind_none, cond_bind, sumK_bind]
noncomputable def spec_l1New_E : Env Row := envN false 108 1 [] [(0, spec_l1New_L0_H)]
theorem spec_l1New_nf (x0 : List Int) (ρ : Type) (K : V → Heap Row → Option ρ) : evBody rowU spec_l1New_E (bodyC 108) [.c (.sl 0 0)] [⟨.row ⟨.byte, x0⟩, 0, 1⟩] K = spec_l1New_K x0 (fun r => K (.c (.ptr 1 0)) [⟨.row ⟨.byte, x0⟩, 0, 1⟩, ⟨.box [.sl 0 0, .int .i64 r.i, .int .i64 r.h], 0, 2⟩]) := by kernel_rfl
def spec_l1New_D : List V → Heap Row → Option (List Int)
  | [.c (.sl 0 0)], [⟨.row ⟨.byte, v1⟩, 0, 1⟩] => some (v1)
  | _, _ => none
theorem spec_l1New_D_ok {vs : List V} {W : Heap Row} {a : List Int} (h : spec_l1New_D vs W = some a) : vs = [.c (.sl 0 0)] ∧ W = [⟨.row ⟨.byte, a⟩, 0, 1⟩] := by
  unfold spec_l1New_D at h
  split at h
  · simp at h; subst h; exact ⟨rfl, rfl⟩
  · simp at h
noncomputable def spec_l1New_C : Callee Row := ⟨[(false, 0)], fun _ vs W K => (spec_l1New_D vs W).bind fun a => (spec_l1New a).bind fun r => K (.c (.ptr 1 0)) [⟨.row ⟨.byte, a⟩, 0, 1⟩, ⟨.box [.sl 0 0, .int .i64 r.i, .int .i64 r.h], 0, 2⟩]⟩
theorem spec_l1New_ok : CalleeOk Try.prog rowU 108 spec_l1New_C := by
  refine calleeP (nl := false) (m0 := 1) (T := []) (H := [(0, spec_l1New_L0_H)]) TabOk.nil (by kernel_rfl) (by kernel_rfl) (fun p hp hb => by
    simp only [List.mem_cons, List.not_mem_nil, or_false] at hp
    subst hp
    exact spec_l1New_L0_ok hb) fun ρ vs W K r h => ?_
  obtain ⟨a, ha, h1⟩ := Option.bind_eq_some_iff.1 h
  clear h
  obtain ⟨rfl, rfl⟩ := spec_l1New_D_ok ha
  obtain ⟨q, hq, h2⟩ := Option.bind_eq_some_iff.1 h1
  exact ⟨_, _, h2, (spec_l1New_nf a _ _).trans ((spec_l1New_bind a _).trans (by rw [hq]; rfl))⟩
/-! loop.example/g00249/spec.MemoryNew -/
def spec_MemoryNew_K  {ρ : Type} (K : GMemory → Option ρ) : Option ρ :=
  K (⟨List.replicate 24 (⟨0, false, (⟨0, 0, 0, 0⟩ : GKey)⟩ : GWord), List.replicate 24 false⟩ : GMemory)
def spec_MemoryNew  : Option (GMemory) := spec_MemoryNew_K  some
theorem spec_MemoryNew_bind  {ρ : Type} (K : GMemory → Option ρ) : spec_MemoryNew_K  K = (spec_MemoryNew ).bind K := by
  simp only [spec_MemoryNew, spec_MemoryNew_K, Option.bind_assoc, Option.bind_some, Option.bind_none, cond_bind, sumK_bind]
noncomputable def spec_MemoryNew_E : Env Row := envN false 189 0 [] []
theorem spec_MemoryNew_nf  (ρ : Type) (K : V → Heap Row → Option ρ) : evBody rowU spec_MemoryNew_E (bodyC 189) [] [] K = spec_MemoryNew_K  (fun r => K (.a [.sl 0 0, .sl 1 0]) [⟨.row ⟨.word, r.words⟩, 0, 2⟩, ⟨.row ⟨.bool, r.gone⟩, 0, 2⟩]) := by kernel_rfl
def spec_MemoryNew_D : List V → Heap Row → Option (Unit)
  | [], [] => some ()
  | _, _ => none
theorem spec_MemoryNew_D_ok {vs : List V} {W : Heap Row} {a : Unit} (h : spec_MemoryNew_D vs W = some a) : vs = [] ∧ W = [] := by
  unfold spec_MemoryNew_D at h
  split at h
  · exact ⟨rfl, rfl⟩
  · simp at h
def spec_MemoryNew_C : Callee Row := ⟨[], fun _ vs W K => (spec_MemoryNew_D vs W).bind fun a => (spec_MemoryNew).bind fun r => K (.a [.sl 0 0, .sl 1 0]) [⟨.row ⟨.word, r.words⟩, 0, 2⟩, ⟨.row ⟨.bool, r.gone⟩, 0, 2⟩]⟩
theorem spec_MemoryNew_ok : CalleeOk Try.prog rowU 189 spec_MemoryNew_C := by
  refine calleeP (nl := false) (m0 := 0) (T := []) (H := []) TabOk.nil (by kernel_rfl) (by kernel_rfl) (fun p hp => nomatch hp) fun ρ vs W K r h => ?_
  obtain ⟨a, ha, h1⟩ := Option.bind_eq_some_iff.1 h
  clear h
  obtain ⟨rfl, rfl⟩ := spec_MemoryNew_D_ok ha
  obtain ⟨q, hq, h2⟩ := Option.bind_eq_some_iff.1 h1
  exact ⟨_, _, h2, (spec_MemoryNew_nf  _ _).trans ((spec_MemoryNew_bind  _).trans (by rw [hq]; rfl))⟩
/-! loop.example/g00249/spec.l1Byte -/
def spec_l1Byte_K (x0 : GL1Cur) {ρ : Type} (K : Int × Int × Int → Option ρ) : Option ρ :=
  cond (decide (x0.i < (((x0.b.length : Nat) : Int))))
    (cond (decide (0 ≤ x0.i)) (cond (decide (x0.i < (((x0.b.length : Nat) : Int)))) (K (bits .and .i64 (w64 ((bits .and .i64 (bits .xor .i64 (Int.fdiv (w64 ((w64 (x0.h * 6364136223846793005)) + 1442695040888963407)) 8589934592) (Int.fdiv (w64 ((w64 (x0.h * 6364136223846793005)) + 1442695040888963407)) 35184372088832)) 255) + (w64 (List.getD x0.b (x0.i.toNat) 0)))) 255, w64 (x0.i + 1), w64 ((w64 (x0.h * 6364136223846793005)) + 1442695040888963407))) none) none)
    (K (bits .and .i64 (bits .xor .i64 (Int.fdiv (w64 ((w64 (x0.h * 6364136223846793005)) + 1442695040888963407)) 8589934592) (Int.fdiv (w64 ((w64 (x0.h * 6364136223846793005)) + 1442695040888963407)) 35184372088832)) 255, x0.i, w64 ((w64 (x0.h * 6364136223846793005)) + 1442695040888963407)))
def spec_l1Byte (x0 : GL1Cur) : Option (Int × Int × Int) := spec_l1Byte_K x0 some
theorem spec_l1Byte_bind (x0 : GL1Cur) {ρ : Type} (K : Int × Int × Int → Option ρ) : spec_l1Byte_K x0 K = (spec_l1Byte x0).bind K := by
  simp only [spec_l1Byte, spec_l1Byte_K, Option.bind_assoc, Option.bind_some, Option.bind_none, cond_bind, sumK_bind]
noncomputable def spec_l1Byte_E : Env Row := envN false 194 2 [] []
theorem spec_l1Byte_nf (x0 : GL1Cur) (ρ : Type) (K : V → Heap Row → Option ρ) : evBody rowU spec_l1Byte_E (bodyC 194) [.c (.ptr 0 0)] [⟨.box [.sl 1 0, .int .i64 x0.i, .int .i64 x0.h], 0, 2⟩, ⟨.row ⟨.byte, x0.b⟩, 0, 1⟩] K = spec_l1Byte_K x0 (fun r => K (.c (.int .i64 r.1)) [⟨.box [.sl 1 0, .int .i64 r.2.1, .int .i64 r.2.2], 0, 2⟩, ⟨.row ⟨.byte, x0.b⟩, 0, 1⟩]) := by kernel_rfl
def spec_l1Byte_D : List V → Heap Row → Option (GL1Cur)
  | [.c (.ptr 0 0)], [⟨.box [.sl 1 0, .int .i64 v1, .int .i64 v2], 0, 2⟩, ⟨.row ⟨.byte, v3⟩, 0, 1⟩] => some (⟨v3, v1, v2⟩)
  | _, _ => none
theorem spec_l1Byte_D_ok {vs : List V} {W : Heap Row} {a : GL1Cur} (h : spec_l1Byte_D vs W = some a) : vs = [.c (.ptr 0 0)] ∧ W = [⟨.box [.sl 1 0, .int .i64 (a).i, .int .i64 (a).h], 0, 2⟩, ⟨.row ⟨.byte, (a).b⟩, 0, 1⟩] := by
  unfold spec_l1Byte_D at h
  split at h
  · simp at h; subst h; exact ⟨rfl, rfl⟩
  · simp at h
def spec_l1Byte_C : Callee Row := ⟨[(true, 3), (false, 0)], fun _ vs W K => (spec_l1Byte_D vs W).bind fun a => (spec_l1Byte a).bind fun r => K (.c (.int .i64 r.1)) [⟨.box [.sl 1 0, .int .i64 r.2.1, .int .i64 r.2.2], 0, 2⟩, ⟨.row ⟨.byte, (a).b⟩, 0, 1⟩]⟩
theorem spec_l1Byte_ok : CalleeOk Try.prog rowU 194 spec_l1Byte_C := by
  refine calleeP (nl := false) (m0 := 2) (T := []) (H := []) TabOk.nil (by kernel_rfl) (by kernel_rfl) (fun p hp => nomatch hp) fun ρ vs W K r h => ?_
  obtain ⟨a, ha, h1⟩ := Option.bind_eq_some_iff.1 h
  clear h
  obtain ⟨rfl, rfl⟩ := spec_l1Byte_D_ok ha
  obtain ⟨q, hq, h2⟩ := Option.bind_eq_some_iff.1 h1
  exact ⟨_, _, h2, (spec_l1Byte_nf a _ _).trans ((spec_l1Byte_bind a _).trans (by rw [hq]; rfl))⟩
/-! loop.example/g00249/spec.l1Below -/
def spec_l1Below_K (x0 : GL1Cur) (x1 : Int) {ρ : Type} (K : Int × Int × Int → Option ρ) : Option ρ :=
  cond (decide (x1 ≤ 0))
    (K (0, x0.i, x0.h))
    (cond (decide (x1 ≤ 256))
      (Option.bind (spec_l1Byte x0) fun r1 =>
      cond (x1 != 0) (K (Int.tmod r1.1 x1, r1.2.1, r1.2.2)) none)
      (Option.bind (spec_l1Byte x0) fun r2 =>
      Option.bind (spec_l1Byte (⟨x0.b, r2.2.1, r2.2.2⟩ : GL1Cur)) fun r3 =>
      Option.bind (spec_l1Byte (⟨x0.b, r3.2.1, r3.2.2⟩ : GL1Cur)) fun r4 =>
      Option.bind (spec_l1Byte (⟨x0.b, r4.2.1, r4.2.2⟩ : GL1Cur)) fun r5 =>
      cond (x1 != 0) (K (Int.tmod (w64 ((w64 ((w64 ((w64 (r2.1 * 16777216)) + (w64 (r3.1 * 65536)))) + (w64 (r4.1 * 256)))) + r5.1)) x1, r5.2.1, r5.2.2)) none))
def spec_l1Below (x0 : GL1Cur) (x1 : Int) : Option (Int × Int × Int) := spec_l1Below_K x0 x1 some
theorem spec_l1Below_bind (x0 : GL1Cur) (x1 : Int) {ρ : Type} (K : Int × Int × Int → Option ρ) : spec_l1Below_K x0 x1 K = (spec_l1Below x0 x1).bind K := by
  simp only [spec_l1Below, spec_l1Below_K, Option.bind_assoc, Option.bind_some, Option.bind_none, cond_bind, sumK_bind]
noncomputable def spec_l1Below_E : Env Row := envN false 110 2 [(194, spec_l1Byte_C)] []
theorem spec_l1Below_nf (x0 : GL1Cur) (x1 : Int) (ρ : Type) (K : V → Heap Row → Option ρ) : evBody rowU spec_l1Below_E (bodyC 110) [.c (.ptr 0 0), .c (.int .i64 x1)] [⟨.box [.sl 1 0, .int .i64 x0.i, .int .i64 x0.h], 0, 2⟩, ⟨.row ⟨.byte, x0.b⟩, 0, 1⟩] K = spec_l1Below_K x0 x1 (fun r => K (.c (.int .i64 r.1)) [⟨.box [.sl 1 0, .int .i64 r.2.1, .int .i64 r.2.2], 0, 2⟩, ⟨.row ⟨.byte, x0.b⟩, 0, 1⟩]) := by kernel_rfl
def spec_l1Below_D : List V → Heap Row → Option (GL1Cur × Int)
  | [.c (.ptr 0 0), .c (.int .i64 v1)], [⟨.box [.sl 1 0, .int .i64 v2, .int .i64 v3], 0, 2⟩, ⟨.row ⟨.byte, v4⟩, 0, 1⟩] => some (⟨v4, v2, v3⟩, v1)
  | _, _ => none
theorem spec_l1Below_D_ok {vs : List V} {W : Heap Row} {a : GL1Cur × Int} (h : spec_l1Below_D vs W = some a) : vs = [.c (.ptr 0 0), .c (.int .i64 (a.2))] ∧ W = [⟨.box [.sl 1 0, .int .i64 (a.1).i, .int .i64 (a.1).h], 0, 2⟩, ⟨.row ⟨.byte, (a.1).b⟩, 0, 1⟩] := by
  unfold spec_l1Below_D at h
  split at h
  · simp at h; subst h; exact ⟨rfl, rfl⟩
  · simp at h
def spec_l1Below_C : Callee Row := ⟨[(true, 3), (false, 0)], fun _ vs W K => (spec_l1Below_D vs W).bind fun a => (spec_l1Below a.1 a.2).bind fun r => K (.c (.int .i64 r.1)) [⟨.box [.sl 1 0, .int .i64 r.2.1, .int .i64 r.2.2], 0, 2⟩, ⟨.row ⟨.byte, (a.1).b⟩, 0, 1⟩]⟩
theorem spec_l1Below_ok : CalleeOk Try.prog rowU 110 spec_l1Below_C := by
  refine calleeP (nl := false) (m0 := 2) (T := [(194, spec_l1Byte_C)]) (H := []) (TabOk.cons spec_l1Byte_ok TabOk.nil) (by kernel_rfl) (by kernel_rfl) (fun p hp => nomatch hp) fun ρ vs W K r h => ?_
  obtain ⟨a, ha, h1⟩ := Option.bind_eq_some_iff.1 h
  clear h
  obtain ⟨rfl, rfl⟩ := spec_l1Below_D_ok ha
  obtain ⟨q, hq, h2⟩ := Option.bind_eq_some_iff.1 h1
  exact ⟨_, _, h2, (spec_l1Below_nf (a.1) (a.2) _ _).trans ((spec_l1Below_bind (a.1) (a.2) _).trans (by rw [hq]; rfl))⟩
/-! loop.example/g00249/spec.l1Once -/
def spec_l1Once_K (x0 : GL1Cur) (x1 : Int) {ρ : Type} (K : Bool × Int × Int → Option ρ) : Option ρ :=
  Option.bind (spec_l1Below x0 x1) fun r1 =>
  K (r1.1 == 0, r1.2.1, r1.2.2)
def spec_l1Once (x0 : GL1Cur) (x1 : Int) : Option (Bool × Int × Int) := spec_l1Once_K x0 x1 some
theorem spec_l1Once_bind (x0 : GL1Cur) (x1 : Int) {ρ : Type} (K : Bool × Int × Int → Option ρ) : spec_l1Once_K x0 x1 K = (spec_l1Once x0 x1).bind K := by
  simp only [spec_l1Once, spec_l1Once_K, Option.bind_assoc, Option.bind_some, Option.bind_none, cond_bind, sumK_bind]
noncomputable def spec_l1Once_E : Env Row := envN false 241 2 [(110, spec_l1Below_C)] []
theorem spec_l1Once_nf (x0 : GL1Cur) (x1 : Int) (ρ : Type) (K : V → Heap Row → Option ρ) : evBody rowU spec_l1Once_E (bodyC 241) [.c (.ptr 0 0), .c (.int .i64 x1)] [⟨.box [.sl 1 0, .int .i64 x0.i, .int .i64 x0.h], 0, 2⟩, ⟨.row ⟨.byte, x0.b⟩, 0, 1⟩] K = spec_l1Once_K x0 x1 (fun r => K (.c (.bool r.1)) [⟨.box [.sl 1 0, .int .i64 r.2.1, .int .i64 r.2.2], 0, 2⟩, ⟨.row ⟨.byte, x0.b⟩, 0, 1⟩]) := by kernel_rfl
def spec_l1Once_D : List V → Heap Row → Option (GL1Cur × Int)
  | [.c (.ptr 0 0), .c (.int .i64 v1)], [⟨.box [.sl 1 0, .int .i64 v2, .int .i64 v3], 0, 2⟩, ⟨.row ⟨.byte, v4⟩, 0, 1⟩] => some (⟨v4, v2, v3⟩, v1)
  | _, _ => none
theorem spec_l1Once_D_ok {vs : List V} {W : Heap Row} {a : GL1Cur × Int} (h : spec_l1Once_D vs W = some a) : vs = [.c (.ptr 0 0), .c (.int .i64 (a.2))] ∧ W = [⟨.box [.sl 1 0, .int .i64 (a.1).i, .int .i64 (a.1).h], 0, 2⟩, ⟨.row ⟨.byte, (a.1).b⟩, 0, 1⟩] := by
  unfold spec_l1Once_D at h
  split at h
  · simp at h; subst h; exact ⟨rfl, rfl⟩
  · simp at h
def spec_l1Once_C : Callee Row := ⟨[(true, 3), (false, 0)], fun _ vs W K => (spec_l1Once_D vs W).bind fun a => (spec_l1Once a.1 a.2).bind fun r => K (.c (.bool r.1)) [⟨.box [.sl 1 0, .int .i64 r.2.1, .int .i64 r.2.2], 0, 2⟩, ⟨.row ⟨.byte, (a.1).b⟩, 0, 1⟩]⟩
theorem spec_l1Once_ok : CalleeOk Try.prog rowU 241 spec_l1Once_C := by
  refine calleeP (nl := false) (m0 := 2) (T := [(110, spec_l1Below_C)]) (H := []) (TabOk.cons spec_l1Below_ok TabOk.nil) (by kernel_rfl) (by kernel_rfl) (fun p hp => nomatch hp) fun ρ vs W K r h => ?_
  obtain ⟨a, ha, h1⟩ := Option.bind_eq_some_iff.1 h
  clear h
  obtain ⟨rfl, rfl⟩ := spec_l1Once_D_ok ha
  obtain ⟨q, hq, h2⟩ := Option.bind_eq_some_iff.1 h1
  exact ⟨_, _, h2, (spec_l1Once_nf (a.1) (a.2) _ _).trans ((spec_l1Once_bind (a.1) (a.2) _).trans (by rw [hq]; rfl))⟩
/-! loop.example/g00249/spec.l1PickInt -/
def spec_l1PickInt_K (x0 : GL1Cur) (x1 : List Int) {ρ : Type} (K : Int × Int × Int → Option ρ) : Option ρ :=
  Option.bind (spec_l1Below x0 (((x1.length : Nat) : Int))) fun r1 =>
  cond (decide (0 ≤ r1.1)) (cond (decide (r1.1 < (((x1.length : Nat) : Int)))) (K (List.getD x1 (r1.1.toNat) 0, r1.2.1, r1.2.2)) none) none
def spec_l1PickInt (x0 : GL1Cur) (x1 : List Int) : Option (Int × Int × Int) := spec_l1PickInt_K x0 x1 some
theorem spec_l1PickInt_bind (x0 : GL1Cur) (x1 : List Int) {ρ : Type} (K : Int × Int × Int → Option ρ) : spec_l1PickInt_K x0 x1 K = (spec_l1PickInt x0 x1).bind K := by
  simp only [spec_l1PickInt, spec_l1PickInt_K, Option.bind_assoc, Option.bind_some, Option.bind_none, cond_bind, sumK_bind]
noncomputable def spec_l1PickInt_E : Env Row := envN false 147 3 [(110, spec_l1Below_C)] []
theorem spec_l1PickInt_nf (x0 : GL1Cur) (x1 : List Int) (ρ : Type) (K : V → Heap Row → Option ρ) : evBody rowU spec_l1PickInt_E (bodyC 147) [.c (.ptr 0 0), .c (.sl 2 0)] [⟨.box [.sl 1 0, .int .i64 x0.i, .int .i64 x0.h], 0, 2⟩, ⟨.row ⟨.byte, x0.b⟩, 0, 1⟩, ⟨.row ⟨.int, x1⟩, 0, 1⟩] K = spec_l1PickInt_K x0 x1 (fun r => K (.c (.int .i64 r.1)) [⟨.box [.sl 1 0, .int .i64 r.2.1, .int .i64 r.2.2], 0, 2⟩, ⟨.row ⟨.byte, x0.b⟩, 0, 1⟩, ⟨.row ⟨.int, x1⟩, 0, 1⟩]) := by kernel_rfl
def spec_l1PickInt_D : List V → Heap Row → Option (GL1Cur × List Int)
  | [.c (.ptr 0 0), .c (.sl 2 0)], [⟨.box [.sl 1 0, .int .i64 v1, .int .i64 v2], 0, 2⟩, ⟨.row ⟨.byte, v3⟩, 0, 1⟩, ⟨.row ⟨.int, v4⟩, 0, 1⟩] => some (⟨v3, v1, v2⟩, v4)
  | _, _ => none
theorem spec_l1PickInt_D_ok {vs : List V} {W : Heap Row} {a : GL1Cur × List Int} (h : spec_l1PickInt_D vs W = some a) : vs = [.c (.ptr 0 0), .c (.sl 2 0)] ∧ W = [⟨.box [.sl 1 0, .int .i64 (a.1).i, .int .i64 (a.1).h], 0, 2⟩, ⟨.row ⟨.byte, (a.1).b⟩, 0, 1⟩, ⟨.row ⟨.int, a.2⟩, 0, 1⟩] := by
  unfold spec_l1PickInt_D at h
  split at h
  · simp at h; subst h; exact ⟨rfl, rfl⟩
  · simp at h
def spec_l1PickInt_C : Callee Row := ⟨[(true, 3), (false, 0), (false, 0)], fun _ vs W K => (spec_l1PickInt_D vs W).bind fun a => (spec_l1PickInt a.1 a.2).bind fun r => K (.c (.int .i64 r.1)) [⟨.box [.sl 1 0, .int .i64 r.2.1, .int .i64 r.2.2], 0, 2⟩, ⟨.row ⟨.byte, (a.1).b⟩, 0, 1⟩, ⟨.row ⟨.int, a.2⟩, 0, 1⟩]⟩
theorem spec_l1PickInt_ok : CalleeOk Try.prog rowU 147 spec_l1PickInt_C := by
  refine calleeP (nl := false) (m0 := 3) (T := [(110, spec_l1Below_C)]) (H := []) (TabOk.cons spec_l1Below_ok TabOk.nil) (by kernel_rfl) (by kernel_rfl) (fun p hp => nomatch hp) fun ρ vs W K r h => ?_
  obtain ⟨a, ha, h1⟩ := Option.bind_eq_some_iff.1 h
  clear h
  obtain ⟨rfl, rfl⟩ := spec_l1PickInt_D_ok ha
  obtain ⟨q, hq, h2⟩ := Option.bind_eq_some_iff.1 h1
  exact ⟨_, _, h2, (spec_l1PickInt_nf (a.1) (a.2) _ _).trans ((spec_l1PickInt_bind (a.1) (a.2) _).trans (by rw [hq]; rfl))⟩
/-! loop.example/g00249/spec.Plain -/
def spec_Plain_K (x0 : Int) {ρ : Type} (K : GWord → Option ρ) : Option ρ :=
  K (⟨bits .and .i64 x0 65535, false, (⟨0, 0, 0, 0⟩ : GKey)⟩ : GWord)
def spec_Plain (x0 : Int) : Option (GWord) := spec_Plain_K x0 some
theorem spec_Plain_bind (x0 : Int) {ρ : Type} (K : GWord → Option ρ) : spec_Plain_K x0 K = (spec_Plain x0).bind K := by
  simp only [spec_Plain, spec_Plain_K, Option.bind_assoc, Option.bind_some, Option.bind_none, cond_bind, sumK_bind]
noncomputable def spec_Plain_E : Env Row := envN false 239 0 [] []
theorem spec_Plain_nf (x0 : Int) (ρ : Type) (K : V → Heap Row → Option ρ) : evBody rowU spec_Plain_E (bodyC 239) [.c (.int .i64 x0)] [] K = spec_Plain_K x0 (fun r => K (.a [.int .i64 r.n, .bool r.is, .int .i64 r.key.base, .int .i64 r.key.top, .int .i64 r.key.perms, .int .i64 r.key.seal_]) []) := by kernel_rfl
def spec_Plain_D : List V → Heap Row → Option (Int)
  | [.c (.int .i64 v1)], [] => some (v1)
  | _, _ => none
theorem spec_Plain_D_ok {vs : List V} {W : Heap Row} {a : Int} (h : spec_Plain_D vs W = some a) : vs = [.c (.int .i64 (a))] ∧ W = [] := by
  unfold spec_Plain_D at h
  split at h
  · simp at h; subst h; exact ⟨rfl, rfl⟩
  · simp at h
def spec_Plain_C : Callee Row := ⟨[], fun _ vs W K => (spec_Plain_D vs W).bind fun a => (spec_Plain a).bind fun r => K (.a [.int .i64 r.n, .bool r.is, .int .i64 r.key.base, .int .i64 r.key.top, .int .i64 r.key.perms, .int .i64 r.key.seal_]) []⟩
theorem spec_Plain_ok : CalleeOk Try.prog rowU 239 spec_Plain_C := by
  refine calleeP (nl := false) (m0 := 0) (T := []) (H := []) TabOk.nil (by kernel_rfl) (by kernel_rfl) (fun p hp => nomatch hp) fun ρ vs W K r h => ?_
  obtain ⟨a, ha, h1⟩ := Option.bind_eq_some_iff.1 h
  clear h
  obtain ⟨rfl, rfl⟩ := spec_Plain_D_ok ha
  obtain ⟨q, hq, h2⟩ := Option.bind_eq_some_iff.1 h1
  exact ⟨_, _, h2, (spec_Plain_nf a _ _).trans ((spec_Plain_bind a _).trans (by rw [hq]; rfl))⟩
/-! loop.example/g00249/spec.Root -/
def spec_Root_K  {ρ : Type} (K : GKey → Option ρ) : Option ρ :=
  K (⟨0, 4096, 63, 0⟩ : GKey)
def spec_Root  : Option (GKey) := spec_Root_K  some
theorem spec_Root_bind  {ρ : Type} (K : GKey → Option ρ) : spec_Root_K  K = (spec_Root ).bind K := by
  simp only [spec_Root, spec_Root_K, Option.bind_assoc, Option.bind_some, Option.bind_none, cond_bind, sumK_bind]
noncomputable def spec_Root_E : Env Row := envN false 282 0 [] []
theorem spec_Root_nf  (ρ : Type) (K : V → Heap Row → Option ρ) : evBody rowU spec_Root_E (bodyC 282) [] [] K = spec_Root_K  (fun r => K (.a [.int .i64 r.base, .int .i64 r.top, .int .i64 r.perms, .int .i64 r.seal_]) []) := by kernel_rfl
def spec_Root_D : List V → Heap Row → Option (Unit)
  | [], [] => some ()
  | _, _ => none
theorem spec_Root_D_ok {vs : List V} {W : Heap Row} {a : Unit} (h : spec_Root_D vs W = some a) : vs = [] ∧ W = [] := by
  unfold spec_Root_D at h
  split at h
  · exact ⟨rfl, rfl⟩
  · simp at h
def spec_Root_C : Callee Row := ⟨[], fun _ vs W K => (spec_Root_D vs W).bind fun a => (spec_Root).bind fun r => K (.a [.int .i64 r.base, .int .i64 r.top, .int .i64 r.perms, .int .i64 r.seal_]) []⟩
theorem spec_Root_ok : CalleeOk Try.prog rowU 282 spec_Root_C := by
  refine calleeP (nl := false) (m0 := 0) (T := []) (H := []) TabOk.nil (by kernel_rfl) (by kernel_rfl) (fun p hp => nomatch hp) fun ρ vs W K r h => ?_
  obtain ⟨a, ha, h1⟩ := Option.bind_eq_some_iff.1 h
  clear h
  obtain ⟨rfl, rfl⟩ := spec_Root_D_ok ha
  obtain ⟨q, hq, h2⟩ := Option.bind_eq_some_iff.1 h1
  exact ⟨_, _, h2, (spec_Root_nf  _ _).trans ((spec_Root_bind  _).trans (by rw [hq]; rfl))⟩
/-! loop.example/g00249/spec.l2DrawRight -/
def spec_l2DrawRight_K (x0 : GL1Cur) {ρ : Type} (K : GKey × Int × Int → Option ρ) : Option ρ :=
  Option.bind (spec_Root ) fun r1 =>
  Option.bind (spec_l1Below x0 4) fun r2 =>
  cond (r2.1 == 0)
    (Option.bind (spec_l1Below (⟨x0.b, r2.2.1, r2.2.2⟩ : GL1Cur) 30) fun r3 =>
    Option.bind (spec_l1Below (⟨x0.b, r3.2.1, r3.2.2⟩ : GL1Cur) 33) fun r4 =>
    Option.bind (spec_l1Once (⟨x0.b, r4.2.1, r4.2.2⟩ : GL1Cur) 2) fun r5 =>
    cond r5.1
      (Option.bind (spec_l1Below (⟨x0.b, r5.2.1, r5.2.2⟩ : GL1Cur) 64) fun r6 =>
      Option.bind (spec_l1Once (⟨x0.b, r6.2.1, r6.2.2⟩ : GL1Cur) 5) fun r7 =>
      cond r7.1
        (Option.bind (spec_l1Below (⟨x0.b, r7.2.1, r7.2.2⟩ : GL1Cur) 7) fun r8 =>
        K ((⟨r3.1, w64 (r3.1 + r4.1), r6.1, w64 (1 + r8.1)⟩ : GKey), r8.2.1, r8.2.2))
        (K ((⟨r3.1, w64 (r3.1 + r4.1), r6.1, r1.seal_⟩ : GKey), r7.2.1, r7.2.2)))
      (Option.bind (spec_l1Once (⟨x0.b, r5.2.1, r5.2.2⟩ : GL1Cur) 5) fun r9 =>
      cond r9.1
        (Option.bind (spec_l1Below (⟨x0.b, r9.2.1, r9.2.2⟩ : GL1Cur) 7) fun r10 =>
        K ((⟨r3.1, w64 (r3.1 + r4.1), r1.perms, w64 (1 + r10.1)⟩ : GKey), r10.2.1, r10.2.2))
        (K ((⟨r3.1, w64 (r3.1 + r4.1), r1.perms, r1.seal_⟩ : GKey), r9.2.1, r9.2.2))))
    (cond (r2.1 == 1)
      (Option.bind (spec_l1Below (⟨x0.b, r2.2.1, r2.2.2⟩ : GL1Cur) 20) fun r11 =>
      Option.bind (spec_l1Below (⟨x0.b, r11.2.1, r11.2.2⟩ : GL1Cur) 9) fun r12 =>
      Option.bind (spec_l1Once (⟨x0.b, r12.2.1, r12.2.2⟩ : GL1Cur) 2) fun r13 =>
      cond r13.1
        (Option.bind (spec_l1Below (⟨x0.b, r13.2.1, r13.2.2⟩ : GL1Cur) 64) fun r14 =>
        Option.bind (spec_l1Once (⟨x0.b, r14.2.1, r14.2.2⟩ : GL1Cur) 5) fun r15 =>
        cond r15.1
          (Option.bind (spec_l1Below (⟨x0.b, r15.2.1, r15.2.2⟩ : GL1Cur) 7) fun r16 =>
          K ((⟨w64 (64 * r11.1), w64 ((w64 (64 * r11.1)) + (w64 (64 * r12.1))), r14.1, w64 (1 + r16.1)⟩ : GKey), r16.2.1, r16.2.2))
          (K ((⟨w64 (64 * r11.1), w64 ((w64 (64 * r11.1)) + (w64 (64 * r12.1))), r14.1, r1.seal_⟩ : GKey), r15.2.1, r15.2.2)))
        (Option.bind (spec_l1Once (⟨x0.b, r13.2.1, r13.2.2⟩ : GL1Cur) 5) fun r17 =>
        cond r17.1
          (Option.bind (spec_l1Below (⟨x0.b, r17.2.1, r17.2.2⟩ : GL1Cur) 7) fun r18 =>
          K ((⟨w64 (64 * r11.1), w64 ((w64 (64 * r11.1)) + (w64 (64 * r12.1))), r1.perms, w64 (1 + r18.1)⟩ : GKey), r18.2.1, r18.2.2))
          (K ((⟨w64 (64 * r11.1), w64 ((w64 (64 * r11.1)) + (w64 (64 * r12.1))), r1.perms, r1.seal_⟩ : GKey), r17.2.1, r17.2.2))))
      (cond (r2.1 == 2)
        (Option.bind (spec_l1Once (⟨x0.b, r2.2.1, r2.2.2⟩ : GL1Cur) 2) fun r19 =>
        cond r19.1
          (Option.bind (spec_l1Below (⟨x0.b, r19.2.1, r19.2.2⟩ : GL1Cur) 64) fun r20 =>
          Option.bind (spec_l1Once (⟨x0.b, r20.2.1, r20.2.2⟩ : GL1Cur) 5) fun r21 =>
          cond r21.1
            (Option.bind (spec_l1Below (⟨x0.b, r21.2.1, r21.2.2⟩ : GL1Cur) 7) fun r22 =>
            K ((⟨r1.base, 32, r20.1, w64 (1 + r22.1)⟩ : GKey), r22.2.1, r22.2.2))
            (K ((⟨r1.base, 32, r20.1, r1.seal_⟩ : GKey), r21.2.1, r21.2.2)))
          (Option.bind (spec_l1Once (⟨x0.b, r19.2.1, r19.2.2⟩ : GL1Cur) 5) fun r23 =>
          cond r23.1
            (Option.bind (spec_l1Below (⟨x0.b, r23.2.1, r23.2.2⟩ : GL1Cur) 7) fun r24 =>
            K ((⟨r1.base, 32, r1.perms, w64 (1 + r24.1)⟩ : GKey), r24.2.1, r24.2.2))
            (K ((⟨r1.base, 32, r1.perms, r1.seal_⟩ : GKey), r23.2.1, r23.2.2))))
        (Option.bind (spec_l1Once (⟨x0.b, r2.2.1, r2.2.2⟩ : GL1Cur) 2) fun r25 =>
        cond r25.1
          (Option.bind (spec_l1Below (⟨x0.b, r25.2.1, r25.2.2⟩ : GL1Cur) 64) fun r26 =>
          Option.bind (spec_l1Once (⟨x0.b, r26.2.1, r26.2.2⟩ : GL1Cur) 5) fun r27 =>
          cond r27.1
            (Option.bind (spec_l1Below (⟨x0.b, r27.2.1, r27.2.2⟩ : GL1Cur) 7) fun r28 =>
            K ((⟨r1.base, r1.top, r26.1, w64 (1 + r28.1)⟩ : GKey), r28.2.1, r28.2.2))
            (K ((⟨r1.base, r1.top, r26.1, r1.seal_⟩ : GKey), r27.2.1, r27.2.2)))
          (Option.bind (spec_l1Once (⟨x0.b, r25.2.1, r25.2.2⟩ : GL1Cur) 5) fun r29 =>
          cond r29.1
            (Option.bind (spec_l1Below (⟨x0.b, r29.2.1, r29.2.2⟩ : GL1Cur) 7) fun r30 =>
            K ((⟨r1.base, r1.top, r1.perms, w64 (1 + r30.1)⟩ : GKey), r30.2.1, r30.2.2))
            (K (r1, r29.2.1, r29.2.2))))))
def spec_l2DrawRight (x0 : GL1Cur) : Option (GKey × Int × Int) := spec_l2DrawRight_K x0 some
theorem spec_l2DrawRight_bind (x0 : GL1Cur) {ρ : Type} (K : GKey × Int × Int → Option ρ) : spec_l2DrawRight_K x0 K = (spec_l2DrawRight x0).bind K := by
  simp only [spec_l2DrawRight, spec_l2DrawRight_K, Option.bind_assoc, Option.bind_some, Option.bind_none, cond_bind, sumK_bind]
noncomputable def spec_l2DrawRight_E : Env Row := envN false 242 2 [(110, spec_l1Below_C), (241, spec_l1Once_C), (282, spec_Root_C)] []
theorem spec_l2DrawRight_nf (x0 : GL1Cur) (ρ : Type) (K : V → Heap Row → Option ρ) : evBody rowU spec_l2DrawRight_E (bodyC 242) [.c (.ptr 0 0)] [⟨.box [.sl 1 0, .int .i64 x0.i, .int .i64 x0.h], 0, 2⟩, ⟨.row ⟨.byte, x0.b⟩, 0, 1⟩] K = spec_l2DrawRight_K x0 (fun r => K (.a [.int .i64 r.1.base, .int .i64 r.1.top, .int .i64 r.1.perms, .int .i64 r.1.seal_]) [⟨.box [.sl 1 0, .int .i64 r.2.1, .int .i64 r.2.2], 0, 2⟩, ⟨.row ⟨.byte, x0.b⟩, 0, 1⟩]) := by kernel_rfl
def spec_l2DrawRight_D : List V → Heap Row → Option (GL1Cur)
  | [.c (.ptr 0 0)], [⟨.box [.sl 1 0, .int .i64 v1, .int .i64 v2], 0, 2⟩, ⟨.row ⟨.byte, v3⟩, 0, 1⟩] => some (⟨v3, v1, v2⟩)
  | _, _ => none
theorem spec_l2DrawRight_D_ok {vs : List V} {W : Heap Row} {a : GL1Cur} (h : spec_l2DrawRight_D vs W = some a) : vs = [.c (.ptr 0 0)] ∧ W = [⟨.box [.sl 1 0, .int .i64 (a).i, .int .i64 (a).h], 0, 2⟩, ⟨.row ⟨.byte, (a).b⟩, 0, 1⟩] := by
  unfold spec_l2DrawRight_D at h
  split at h
  · simp at h; subst h; exact ⟨rfl, rfl⟩
  · simp at h
def spec_l2DrawRight_C : Callee Row := ⟨[(true, 3), (false, 0)], fun _ vs W K => (spec_l2DrawRight_D vs W).bind fun a => (spec_l2DrawRight a).bind fun r => K (.a [.int .i64 r.1.base, .int .i64 r.1.top, .int .i64 r.1.perms, .int .i64 r.1.seal_]) [⟨.box [.sl 1 0, .int .i64 r.2.1, .int .i64 r.2.2], 0, 2⟩, ⟨.row ⟨.byte, (a).b⟩, 0, 1⟩]⟩
theorem spec_l2DrawRight_ok : CalleeOk Try.prog rowU 242 spec_l2DrawRight_C := by
  refine calleeP (nl := false) (m0 := 2) (T := [(110, spec_l1Below_C), (241, spec_l1Once_C), (282, spec_Root_C)]) (H := []) (TabOk.cons spec_l1Below_ok (TabOk.cons spec_l1Once_ok (TabOk.cons spec_Root_ok TabOk.nil))) (by kernel_rfl) (by kernel_rfl) (fun p hp => nomatch hp) fun ρ vs W K r h => ?_
  obtain ⟨a, ha, h1⟩ := Option.bind_eq_some_iff.1 h
  clear h
  obtain ⟨rfl, rfl⟩ := spec_l2DrawRight_D_ok ha
  obtain ⟨q, hq, h2⟩ := Option.bind_eq_some_iff.1 h1
  exact ⟨_, _, h2, (spec_l2DrawRight_nf a _ _).trans ((spec_l2DrawRight_bind a _).trans (by rw [hq]; rfl))⟩
/-! loop.example/g00249/spec.l1In -/
def spec_l1In_K (x0 : Int) (x1 : Int) (x2 : Int) {ρ : Type} (K : Bool → Option ρ) : Option ρ :=
  cond ((decide (x0 ≥ x1)) == true)
    (K (decide (x0 ≤ x2)))
    (K false)
def spec_l1In (x0 : Int) (x1 : Int) (x2 : Int) : Option (Bool) := spec_l1In_K x0 x1 x2 some
theorem spec_l1In_bind (x0 : Int) (x1 : Int) (x2 : Int) {ρ : Type} (K : Bool → Option ρ) : spec_l1In_K x0 x1 x2 K = (spec_l1In x0 x1 x2).bind K := by
  simp only [spec_l1In, spec_l1In_K, Option.bind_assoc, Option.bind_some, Option.bind_none, cond_bind, sumK_bind]
noncomputable def spec_l1In_E : Env Row := envN false 160 0 [] []
theorem spec_l1In_nf (x0 : Int) (x1 : Int) (x2 : Int) (ρ : Type) (K : V → Heap Row → Option ρ) : evBody rowU spec_l1In_E (bodyC 160) [.c (.int .i64 x0), .c (.int .i64 x1), .c (.int .i64 x2)] [] K = spec_l1In_K x0 x1 x2 (fun r => K (.c (.bool r)) []) := by kernel_rfl
def spec_l1In_D : List V → Heap Row → Option (Int × Int × Int)
  | [.c (.int .i64 v1), .c (.int .i64 v2), .c (.int .i64 v3)], [] => some (v1, v2, v3)
  | _, _ => none
theorem spec_l1In_D_ok {vs : List V} {W : Heap Row} {a : Int × Int × Int} (h : spec_l1In_D vs W = some a) : vs = [.c (.int .i64 (a.1)), .c (.int .i64 (a.2.1)), .c (.int .i64 (a.2.2))] ∧ W = [] := by
  unfold spec_l1In_D at h
  split at h
  · simp at h; subst h; exact ⟨rfl, rfl⟩
  · simp at h
def spec_l1In_C : Callee Row := ⟨[], fun _ vs W K => (spec_l1In_D vs W).bind fun a => (spec_l1In a.1 a.2.1 a.2.2).bind fun r => K (.c (.bool r)) []⟩
theorem spec_l1In_ok : CalleeOk Try.prog rowU 160 spec_l1In_C := by
  refine calleeP (nl := false) (m0 := 0) (T := []) (H := []) TabOk.nil (by kernel_rfl) (by kernel_rfl) (fun p hp => nomatch hp) fun ρ vs W K r h => ?_
  obtain ⟨a, ha, h1⟩ := Option.bind_eq_some_iff.1 h
  clear h
  obtain ⟨rfl, rfl⟩ := spec_l1In_D_ok ha
  obtain ⟨q, hq, h2⟩ := Option.bind_eq_some_iff.1 h1
  exact ⟨_, _, h2, (spec_l1In_nf (a.1) (a.2.1) (a.2.2) _ _).trans ((spec_l1In_bind (a.1) (a.2.1) (a.2.2) _).trans (by rw [hq]; rfl))⟩
/-! loop.example/g00249/spec.BoundsOk -/
def spec_BoundsOk_K (x0 : Int) (x1 : Int) {ρ : Type} (K : Bool → Option ρ) : Option ρ :=
  Option.bind (spec_l1In x0 0 4096) fun r1 =>
  cond (r1 == true)
    (Option.bind (spec_l1In x1 0 4096) fun r2 =>
    cond (r2 == true)
      (K (decide (x0 ≤ x1)))
      (K false))
    (K false)
def spec_BoundsOk (x0 : Int) (x1 : Int) : Option (Bool) := spec_BoundsOk_K x0 x1 some
theorem spec_BoundsOk_bind (x0 : Int) (x1 : Int) {ρ : Type} (K : Bool → Option ρ) : spec_BoundsOk_K x0 x1 K = (spec_BoundsOk x0 x1).bind K := by
  simp only [spec_BoundsOk, spec_BoundsOk_K, Option.bind_assoc, Option.bind_some, Option.bind_none, cond_bind, sumK_bind]
noncomputable def spec_BoundsOk_E : Env Row := envN false 254 0 [(160, spec_l1In_C)] []
theorem spec_BoundsOk_nf (x0 : Int) (x1 : Int) (ρ : Type) (K : V → Heap Row → Option ρ) : evBody rowU spec_BoundsOk_E (bodyC 254) [.c (.int .i64 x0), .c (.int .i64 x1)] [] K = spec_BoundsOk_K x0 x1 (fun r => K (.c (.bool r)) []) := by kernel_rfl
def spec_BoundsOk_D : List V → Heap Row → Option (Int × Int)
  | [.c (.int .i64 v1), .c (.int .i64 v2)], [] => some (v1, v2)
  | _, _ => none
theorem spec_BoundsOk_D_ok {vs : List V} {W : Heap Row} {a : Int × Int} (h : spec_BoundsOk_D vs W = some a) : vs = [.c (.int .i64 (a.1)), .c (.int .i64 (a.2))] ∧ W = [] := by
  unfold spec_BoundsOk_D at h
  split at h
  · simp at h; subst h; exact ⟨rfl, rfl⟩
  · simp at h
def spec_BoundsOk_C : Callee Row := ⟨[], fun _ vs W K => (spec_BoundsOk_D vs W).bind fun a => (spec_BoundsOk a.1 a.2).bind fun r => K (.c (.bool r)) []⟩
theorem spec_BoundsOk_ok : CalleeOk Try.prog rowU 254 spec_BoundsOk_C := by
  refine calleeP (nl := false) (m0 := 0) (T := [(160, spec_l1In_C)]) (H := []) (TabOk.cons spec_l1In_ok TabOk.nil) (by kernel_rfl) (by kernel_rfl) (fun p hp => nomatch hp) fun ρ vs W K r h => ?_
  obtain ⟨a, ha, h1⟩ := Option.bind_eq_some_iff.1 h
  clear h
  obtain ⟨rfl, rfl⟩ := spec_BoundsOk_D_ok ha
  obtain ⟨q, hq, h2⟩ := Option.bind_eq_some_iff.1 h1
  exact ⟨_, _, h2, (spec_BoundsOk_nf (a.1) (a.2) _ _).trans ((spec_BoundsOk_bind (a.1) (a.2) _).trans (by rw [hq]; rfl))⟩
/-! loop.example/g00249/spec.Pack -/
noncomputable def spec_Pack_L0_K (n3 : Int) (n4 : Int) (n5 : Int) {ρ : Type} (A : Int → Option ρ) (X : Unit → Option ρ) (R : Int × Int × Int → Option ρ) : Option ρ :=
  cond (decide (n5 ≤ 6))
    (cond (decide (0 ≤ n5)) (cond (decide (0 ≤ n5)) (cond (decide (0 ≤ n5)) (cond (decide (0 ≤ n5)) (cond ((decide ((Int.fdiv n3 (pw2 64 n5)) ≤ 63)) == true)
      (cond (decide ((Int.fdiv (w64 ((w64 ((w64 (n4 - (w64 ((Int.fdiv n3 (pw2 64 n5)) * (pw2 64 n5))))) + (w64 (1 * (pw2 64 n5))))) - 1)) (pw2 64 n5)) ≤ 63))
        (R (n5, Int.fdiv n3 (pw2 64 n5), Int.fdiv (w64 ((w64 ((w64 (n4 - (w64 ((Int.fdiv n3 (pw2 64 n5)) * (pw2 64 n5))))) + (w64 (1 * (pw2 64 n5))))) - 1)) (pw2 64 n5)))
        (A (w64 (n5 + 1))))
      (A (w64 (n5 + 1)))) none) none) none) none)
    (X ())
noncomputable def spec_Pack_L0_step (n3 : Int) (n4 : Int) (s : Int) : Option (Rnd (Int) (Unit) (Int × Int × Int)) := spec_Pack_L0_K n3 n4 s (fun s => some (.again s)) (fun t => some (.exit t)) (fun k => some (.ret k))
theorem spec_Pack_L0_bind (n3 : Int) (n4 : Int) (s : Int) {ρ : Type} (A : Int → Option ρ) (X : Unit → Option ρ) (R : Int × Int × Int → Option ρ) : spec_Pack_L0_K n3 n4 s A X R = (spec_Pack_L0_step n3 n4 s).bind (rndE A X R) := by
  simp only [spec_Pack_L0_step, spec_Pack_L0_K, Option.bind_assoc, Option.bind_some, Option.bind_none, cond_bind, sumK_bind, rndE_again, rndE_exit, rndE_ret]
def spec_Pack_L0_st (p : Int × Int) (s : Int) : List V × Heap Row := ([.c (.int .i64 (p.1)), .c (.int .i64 (p.2)), .c (.ptr 0 0), .c (.int .i64 (s))], [⟨.box [.int .i64 0, .int .i64 0, .int .i64 0], 0, 2⟩])
def spec_Pack_L0_so (p : Int × Int) (t : Unit) : List V × Heap Row := ([.c (.ptr 0 0)], [⟨.box [.int .i64 0, .int .i64 0, .int .i64 0], 0, 2⟩])
def spec_Pack_L0_sr (p : Int × Int) (k : Int × Int × Int) : List V × Heap Row := ([.c (.ptr 0 0), .c (.bool true)], [⟨.box [.int .i64 (k).1, .int .i64 (k).2.1, .int .i64 (k).2.2], 0, 2⟩])
def spec_Pack_L0_D : List V → Heap Row → Option ((Int × Int) × (Int))
  | [.c (.int .i64 v1), .c (.int .i64 v2), .c (.ptr 0 0), .c (.int .i64 v3)], [⟨.box [.int .i64 0, .int .i64 0, .int .i64 0], 0, 2⟩] => some ((v1, v2), (v3))
  | _, _ => none
theorem spec_Pack_L0_D_ok (vs : List V) (L : Heap Row) (p : Int × Int) (s : Int) (h : spec_Pack_L0_D vs L = some (p, s)) : spec_Pack_L0_st p s = (vs, L) := by
  unfold spec_Pack_L0_D at h
  split at h
  · simp at h; obtain ⟨rfl, rfl⟩ := h; rfl
  · simp at h
noncomputable def spec_Pack_L0_H : LoopH Row := loopR [0, 1, 4, 6] [4] spec_Pack_L0_D (fun p => spec_Pack_L0_step (p.1) (p.2)) spec_Pack_L0_so spec_Pack_L0_sr
theorem spec_Pack_L0_nf (p : Int × Int) (s : Int) (ρ : Type) (again Kx Kr : List V → Heap Row → Option ρ) : evRound rowU (envOf 292 0 [(254, spec_BoundsOk_C)] [(0, spec_Pack_L0_H)]) 0 spec_Pack_L0_H (loopC 292 0) again (spec_Pack_L0_st p s).1 (spec_Pack_L0_st p s).2 Kx Kr = spec_Pack_L0_K (p.1) (p.2) s (fun s => again (spec_Pack_L0_st p s).1 (spec_Pack_L0_st p s).2) (fun t => Kx (spec_Pack_L0_so p t).1 (spec_Pack_L0_so p t).2) (fun k => Kr (spec_Pack_L0_sr p k).1 (spec_Pack_L0_sr p k).2) := by kernel_rfl
theorem spec_Pack_L0_ok (hb : LoopsOk Try.prog rowU (envOf 292 0 [(254, spec_BoundsOk_C)] [(0, spec_Pack_L0_H)]) (loopAt (codeP 292) 0)) : LoopOk Try.prog rowU (envOf 292 0 [(254, spec_BoundsOk_C)] [(0, spec_Pack_L0_H)]) 0 (loopAt (codeP 292) 0) spec_Pack_L0_H :=
  loopR_ok tagOk mixed envNl (envT (TabOk.cons spec_BoundsOk_ok TabOk.nil)) hb spec_Pack_L0_st spec_Pack_L0_D_ok fun p s ρ A Kx Kr => (spec_Pack_L0_nf p s ρ A Kx Kr).trans (spec_Pack_L0_bind (p.1) (p.2) s _ _ _)
noncomputable def spec_Pack_K (x0 : Int) (x1 : Int) {ρ : Type} (K : GPacked × Bool → Option ρ) : Option ρ :=
  Option.bind (spec_BoundsOk x0 x1) fun r1 =>
  cond (!r1)
    (K ((⟨0, 0, 0⟩ : GPacked), false))
    (Option.bind (runL (spec_Pack_L0_step x0 x1) 0) fun ot2 => sumK ot2
      (fun t2 => K ((⟨0, 0, 0⟩ : GPacked), false))
      (fun k3 => K ((⟨k3.1, k3.2.1, k3.2.2⟩ : GPacked), true)))
noncomputable def spec_Pack (x0 : Int) (x1 : Int) : Option (GPacked × Bool) := spec_Pack_K x0 x1 some
theorem spec_Pack_bind (x0 : Int) (x1 : Int) {ρ : Type} (K : GPacked × Bool → Option ρ) : spec_Pack_K x0 x1 K = (spec_Pack x0 x1).bind K := by
  simp only [spec_Pack, spec_Pack_K, Option.bind_assoc, Option.bind_some, Option.bind_none, cond_bind, sumK_bind]
noncomputable def spec_Pack_E : Env Row := envN false 292 0 [(254, spec_BoundsOk_C)] [(0, spec_Pack_L0_H)]
theorem spec_Pack_nf (x0 : Int) (x1 : Int) (ρ : Type) (K : V → Heap Row → Option ρ) : evBody rowU spec_Pack_E (bodyC 292) [.c (.int .i64 x0), .c (.int .i64 x1)] [] K = spec_Pack_K x0 x1 (fun r => K (.t [(true, [.int .i64 r.1.e, .int .i64 r.1.b, .int .i64 r.1.l]), (false, [.bool r.2])]) []) := by kernel_rfl
def spec_Pack_D : List V → Heap Row → Option (Int × Int)
  | [.c (.int .i64 v1), .c (.int .i64 v2)], [] => some (v1, v2)
  | _, _ => none
theorem spec_Pack_D_ok {vs : List V} {W : Heap Row} {a : Int × Int} (h : spec_Pack_D vs W = some a) : vs = [.c (.int .i64 (a.1)), .c (.int .i64 (a.2))] ∧ W = [] := by
  unfold spec_Pack_D at h
  split at h
  · simp at h; subst h; exact ⟨rfl, rfl⟩
  · simp at h
noncomputable def spec_Pack_C : Callee Row := ⟨[], fun _ vs W K => (spec_Pack_D vs W).bind fun a => (spec_Pack a.1 a.2).bind fun r => K (.t [(true, [.int .i64 r.1.e, .int .i64 r.1.b, .int .i64 r.1.l]), (false, [.bool r.2])]) []⟩
theorem spec_Pack_ok : CalleeOk Try.prog rowU 292 spec_Pack_C := by
  refine calleeP (nl := false) (m0 := 0) (T := [(254, spec_BoundsOk_C)]) (H := [(0, spec_Pack_L0_H)]) (TabOk.cons spec_BoundsOk_ok TabOk.nil) (by kernel_rfl) (by kernel_rfl) (fun p hp hb => by
    simp only [List.mem_cons, List.not_mem_nil, or_false] at hp
    subst hp
    exact spec_Pack_L0_ok hb) fun ρ vs W K r h => ?_
  obtain ⟨a, ha, h1⟩ := Option.bind_eq_some_iff.1 h
  clear h
  obtain ⟨rfl, rfl⟩ := spec_Pack_D_ok ha
  obtain ⟨q, hq, h2⟩ := Option.bind_eq_some_iff.1 h1
  exact ⟨_, _, h2, (spec_Pack_nf (a.1) (a.2) _ _).trans ((spec_Pack_bind (a.1) (a.2) _).trans (by rw [hq]; rfl))⟩
/-! loop.example/g00249/spec.l1Min -/
def spec_l1Min_K (x0 : Int) (x1 : Int) {ρ : Type} (K : Int → Option ρ) : Option ρ :=
  cond (decide (x0 < x1))
    (K x0)
    (K x1)
def spec_l1Min (x0 : Int) (x1 : Int) : Option (Int) := spec_l1Min_K x0 x1 some
theorem spec_l1Min_bind (x0 : Int) (x1 : Int) {ρ : Type} (K : Int → Option ρ) : spec_l1Min_K x0 x1 K = (spec_l1Min x0 x1).bind K := by
  simp only [spec_l1Min, spec_l1Min_K, Option.bind_assoc, Option.bind_some, Option.bind_none, cond_bind, sumK_bind]
noncomputable def spec_l1Min_E : Env Row := envN false 119 0 [] []
theorem spec_l1Min_nf (x0 : Int) (x1 : Int) (ρ : Type) (K : V → Heap Row → Option ρ) : evBody rowU spec_l1Min_E (bodyC 119) [.c (.int .i64 x0), .c (.int .i64 x1)] [] K = spec_l1Min_K x0 x1 (fun r => K (.c (.int .i64 r)) []) := by kernel_rfl
def spec_l1Min_D : List V → Heap Row → Option (Int × Int)
  | [.c (.int .i64 v1), .c (.int .i64 v2)], [] => some (v1, v2)
  | _, _ => none
theorem spec_l1Min_D_ok {vs : List V} {W : Heap Row} {a : Int × Int} (h : spec_l1Min_D vs W = some a) : vs = [.c (.int .i64 (a.1)), .c (.int .i64 (a.2))] ∧ W = [] := by
  unfold spec_l1Min_D at h
  split at h
  · simp at h; subst h; exact ⟨rfl, rfl⟩
  · simp at h
def spec_l1Min_C : Callee Row := ⟨[], fun _ vs W K => (spec_l1Min_D vs W).bind fun a => (spec_l1Min a.1 a.2).bind fun r => K (.c (.int .i64 r)) []⟩
theorem spec_l1Min_ok : CalleeOk Try.prog rowU 119 spec_l1Min_C := by
  refine calleeP (nl := false) (m0 := 0) (T := []) (H := []) TabOk.nil (by kernel_rfl) (by kernel_rfl) (fun p hp => nomatch hp) fun ρ vs W K r h => ?_
  obtain ⟨a, ha, h1⟩ := Option.bind_eq_some_iff.1 h
  clear h
  obtain ⟨rfl, rfl⟩ := spec_l1Min_D_ok ha
  obtain ⟨q, hq, h2⟩ := Option.bind_eq_some_iff.1 h1
  exact ⟨_, _, h2, (spec_l1Min_nf (a.1) (a.2) _ _).trans ((spec_l1Min_bind (a.1) (a.2) _).trans (by rw [hq]; rfl))⟩
/-! loop.example/g00249/spec.Unpack -/
def spec_Unpack_K (x0 : GPacked) {ρ : Type} (K : Int × Int × Bool → Option ρ) : Option ρ :=
  Option.bind (spec_l1In x0.e 0 6) fun r1 =>
  cond ((!r1) == false)
    (Option.bind (spec_l1In x0.b 0 63) fun r2 =>
    cond ((!r2) == false)
      (Option.bind (spec_l1In x0.l 0 63) fun r3 =>
      cond (!r3)
        (K (0, 0, false))
        (cond (decide (0 ≤ x0.e)) (cond (decide (0 ≤ x0.e)) (Option.bind (spec_l1Min (w64 ((w64 (x0.b + x0.l)) * (pw2 64 x0.e))) 4096) fun r4 =>
        K (w64 (x0.b * (pw2 64 x0.e)), r4, true)) none) none))
      (K (0, 0, false)))
    (K (0, 0, false))
def spec_Unpack (x0 : GPacked) : Option (Int × Int × Bool) := spec_Unpack_K x0 some
theorem spec_Unpack_bind (x0 : GPacked) {ρ : Type} (K : Int × Int × Bool → Option ρ) : spec_Unpack_K x0 K = (spec_Unpack x0).bind K := by
  simp only [spec_Unpack, spec_Unpack_K, Option.bind_assoc, Option.bind_some, Option.bind_none, cond_bind, sumK_bind]
noncomputable def spec_Unpack_E : Env Row := envN false 293 0 [(160, spec_l1In_C), (119, spec_l1Min_C)] []
theorem spec_Unpack_nf (x0 : GPacked) (ρ : Type) (K : V → Heap Row → Option ρ) : evBody rowU spec_Unpack_E (bodyC 293) [.a [.int .i64 x0.e, .int .i64 x0.b, .int .i64 x0.l]] [] K = spec_Unpack_K x0 (fun r => K (.t [(false, [.int .i64 r.1]), (false, [.int .i64 r.2.1]), (false, [.bool r.2.2])]) []) := by kernel_rfl
def spec_Unpack_D : List V → Heap Row → Option (GPacked)
  | [.a (.int .i64 v1 :: .int .i64 v2 :: .int .i64 v3 :: [])], [] => some (⟨v1, v2, v3⟩)
  | _, _ => none
theorem spec_Unpack_D_ok {vs : List V} {W : Heap Row} {a : GPacked} (h : spec_Unpack_D vs W = some a) : vs = [.a [.int .i64 (a).e, .int .i64 (a).b, .int .i64 (a).l]] ∧ W = [] := by
  unfold spec_Unpack_D at h
  split at h
  · simp at h; subst h; exact ⟨rfl, rfl⟩
  · simp at h
def spec_Unpack_C : Callee Row := ⟨[], fun _ vs W K => (spec_Unpack_D vs W).bind fun a => (spec_Unpack a).bind fun r => K (.t [(false, [.int .i64 r.1]), (false, [.int .i64 r.2.1]), (false, [.bool r.2.2])]) []⟩
theorem spec_Unpack_ok : CalleeOk Try.prog rowU 293 spec_Unpack_C := by
  refine calleeP (nl := false) (m0 := 0) (T := [(160, spec_l1In_C), (119, spec_l1Min_C)]) (H := []) (TabOk.cons spec_l1In_ok (TabOk.cons spec_l1Min_ok TabOk.nil)) (by kernel_rfl) (by kernel_rfl) (fun p hp => nomatch hp) fun ρ vs W K r h => ?_
  obtain ⟨a, ha, h1⟩ := Option.bind_eq_some_iff.1 h
  clear h
  obtain ⟨rfl, rfl⟩ := spec_Unpack_D_ok ha
  obtain ⟨q, hq, h2⟩ := Option.bind_eq_some_iff.1 h1
  exact ⟨_, _, h2, (spec_Unpack_nf a _ _).trans ((spec_Unpack_bind a _).trans (by rw [hq]; rfl))⟩
/-! loop.example/g00249/spec.Wide -/
noncomputable def spec_Wide_K (x0 : Int) (x1 : Int) {ρ : Type} (K : Int × Int → Option ρ) : Option ρ :=
  Option.bind (spec_Pack x0 x1) fun r1 =>
  cond (!r1.2)
    (Option.bind (spec_BoundsOk x0 x1) fun r2 =>
    cond r2
      (K (0, 4096))
      (K (0, 0)))
    (Option.bind (spec_Unpack r1.1) fun r3 =>
    K (r3.1, r3.2.1))
noncomputable def spec_Wide (x0 : Int) (x1 : Int) : Option (Int × Int) := spec_Wide_K x0 x1 some
theorem spec_Wide_bind (x0 : Int) (x1 : Int) {ρ : Type} (K : Int × Int → Option ρ) : spec_Wide_K x0 x1 K = (spec_Wide x0 x1).bind K := by
  simp only [spec_Wide, spec_Wide_K, Option.bind_assoc, Option.bind_some, Option.bind_none, cond_bind, sumK_bind]
noncomputable def spec_Wide_E : Env Row := envN false 256 0 [(254, spec_BoundsOk_C), (292, spec_Pack_C), (293, spec_Unpack_C)] []
theorem spec_Wide_nf (x0 : Int) (x1 : Int) (ρ : Type) (K : V → Heap Row → Option ρ) : evBody rowU spec_Wide_E (bodyC 256) [.c (.int .i64 x0), .c (.int .i64 x1)] [] K = spec_Wide_K x0 x1 (fun r => K (.t [(false, [.int .i64 r.1]), (false, [.int .i64 r.2])]) []) := by kernel_rfl
def spec_Wide_D : List V → Heap Row → Option (Int × Int)
  | [.c (.int .i64 v1), .c (.int .i64 v2)], [] => some (v1, v2)
  | _, _ => none
theorem spec_Wide_D_ok {vs : List V} {W : Heap Row} {a : Int × Int} (h : spec_Wide_D vs W = some a) : vs = [.c (.int .i64 (a.1)), .c (.int .i64 (a.2))] ∧ W = [] := by
  unfold spec_Wide_D at h
  split at h
  · simp at h; subst h; exact ⟨rfl, rfl⟩
  · simp at h
noncomputable def spec_Wide_C : Callee Row := ⟨[], fun _ vs W K => (spec_Wide_D vs W).bind fun a => (spec_Wide a.1 a.2).bind fun r => K (.t [(false, [.int .i64 r.1]), (false, [.int .i64 r.2])]) []⟩
theorem spec_Wide_ok : CalleeOk Try.prog rowU 256 spec_Wide_C := by
  refine calleeP (nl := false) (m0 := 0) (T := [(254, spec_BoundsOk_C), (292, spec_Pack_C), (293, spec_Unpack_C)]) (H := []) (TabOk.cons spec_BoundsOk_ok (TabOk.cons spec_Pack_ok (TabOk.cons spec_Unpack_ok TabOk.nil))) (by kernel_rfl) (by kernel_rfl) (fun p hp => nomatch hp) fun ρ vs W K r h => ?_
  obtain ⟨a, ha, h1⟩ := Option.bind_eq_some_iff.1 h
  clear h
  obtain ⟨rfl, rfl⟩ := spec_Wide_D_ok ha
  obtain ⟨q, hq, h2⟩ := Option.bind_eq_some_iff.1 h1
  exact ⟨_, _, h2, (spec_Wide_nf (a.1) (a.2) _ _).trans ((spec_Wide_bind (a.1) (a.2) _).trans (by rw [hq]; rfl))⟩
/-! loop.example/g00249/spec.Exact -/
noncomputable def spec_Exact_K (x0 : Int) (x1 : Int) {ρ : Type} (K : Bool → Option ρ) : Option ρ :=
  Option.bind (spec_Wide x0 x1) fun r1 =>
  Option.bind (spec_BoundsOk x0 x1) fun r2 =>
  cond (r2 == true)
    (cond ((r1.1 == x0) == true)
      (K (r1.2 == x1))
      (K false))
    (K false)
noncomputable def spec_Exact (x0 : Int) (x1 : Int) : Option (Bool) := spec_Exact_K x0 x1 some
theorem spec_Exact_bind (x0 : Int) (x1 : Int) {ρ : Type} (K : Bool → Option ρ) : spec_Exact_K x0 x1 K = (spec_Exact x0 x1).bind K := by
  simp only [spec_Exact, spec_Exact_K, Option.bind_assoc, Option.bind_some, Option.bind_none, cond_bind, sumK_bind]
noncomputable def spec_Exact_E : Env Row := envN false 248 0 [(254, spec_BoundsOk_C), (256, spec_Wide_C)] []
theorem spec_Exact_nf (x0 : Int) (x1 : Int) (ρ : Type) (K : V → Heap Row → Option ρ) : evBody rowU spec_Exact_E (bodyC 248) [.c (.int .i64 x0), .c (.int .i64 x1)] [] K = spec_Exact_K x0 x1 (fun r => K (.c (.bool r)) []) := by kernel_rfl
def spec_Exact_D : List V → Heap Row → Option (Int × Int)
  | [.c (.int .i64 v1), .c (.int .i64 v2)], [] => some (v1, v2)
  | _, _ => none
theorem spec_Exact_D_ok {vs : List V} {W : Heap Row} {a : Int × Int} (h : spec_Exact_D vs W = some a) : vs = [.c (.int .i64 (a.1)), .c (.int .i64 (a.2))] ∧ W = [] := by
  unfold spec_Exact_D at h
  split at h
  · simp at h; subst h; exact ⟨rfl, rfl⟩
  · simp at h
noncomputable def spec_Exact_C : Callee Row := ⟨[], fun _ vs W K => (spec_Exact_D vs W).bind fun a => (spec_Exact a.1 a.2).bind fun r => K (.c (.bool r)) []⟩
theorem spec_Exact_ok : CalleeOk Try.prog rowU 248 spec_Exact_C := by
  refine calleeP (nl := false) (m0 := 0) (T := [(254, spec_BoundsOk_C), (256, spec_Wide_C)]) (H := []) (TabOk.cons spec_BoundsOk_ok (TabOk.cons spec_Wide_ok TabOk.nil)) (by kernel_rfl) (by kernel_rfl) (fun p hp => nomatch hp) fun ρ vs W K r h => ?_
  obtain ⟨a, ha, h1⟩ := Option.bind_eq_some_iff.1 h
  clear h
  obtain ⟨rfl, rfl⟩ := spec_Exact_D_ok ha
  obtain ⟨q, hq, h2⟩ := Option.bind_eq_some_iff.1 h1
  exact ⟨_, _, h2, (spec_Exact_nf (a.1) (a.2) _ _).trans ((spec_Exact_bind (a.1) (a.2) _).trans (by rw [hq]; rfl))⟩
/-! loop.example/g00249/spec.KeyOk -/
noncomputable def spec_KeyOk_K (x0 : GKey) {ρ : Type} (K : Bool → Option ρ) : Option ρ :=
  Option.bind (spec_Exact x0.base x0.top) fun r1 =>
  cond (r1 == true)
    (Option.bind (spec_l1In x0.perms 0 63) fun r2 =>
    cond (r2 == true)
      (Option.bind (spec_l1In x0.seal_ 0 7) fun r3 =>
      K r3)
      (K false))
    (K false)
noncomputable def spec_KeyOk (x0 : GKey) : Option (Bool) := spec_KeyOk_K x0 some
theorem spec_KeyOk_bind (x0 : GKey) {ρ : Type} (K : Bool → Option ρ) : spec_KeyOk_K x0 K = (spec_KeyOk x0).bind K := by
  simp only [spec_KeyOk, spec_KeyOk_K, Option.bind_assoc, Option.bind_some, Option.bind_none, cond_bind, sumK_bind]
noncomputable def spec_KeyOk_E : Env Row := envN false 197 0 [(160, spec_l1In_C), (248, spec_Exact_C)] []
theorem spec_KeyOk_nf (x0 : GKey) (ρ : Type) (K : V → Heap Row → Option ρ) : evBody rowU spec_KeyOk_E (bodyC 197) [.a [.int .i64 x0.base, .int .i64 x0.top, .int .i64 x0.perms, .int .i64 x0.seal_]] [] K = spec_KeyOk_K x0 (fun r => K (.c (.bool r)) []) := by kernel_rfl
def spec_KeyOk_D : List V → Heap Row → Option (GKey)
  | [.a (.int .i64 v1 :: .int .i64 v2 :: .int .i64 v3 :: .int .i64 v4 :: [])], [] => some (⟨v1, v2, v3, v4⟩)
  | _, _ => none
theorem spec_KeyOk_D_ok {vs : List V} {W : Heap Row} {a : GKey} (h : spec_KeyOk_D vs W = some a) : vs = [.a [.int .i64 (a).base, .int .i64 (a).top, .int .i64 (a).perms, .int .i64 (a).seal_]] ∧ W = [] := by
  unfold spec_KeyOk_D at h
  split at h
  · simp at h; subst h; exact ⟨rfl, rfl⟩
  · simp at h
noncomputable def spec_KeyOk_C : Callee Row := ⟨[], fun _ vs W K => (spec_KeyOk_D vs W).bind fun a => (spec_KeyOk a).bind fun r => K (.c (.bool r)) []⟩
theorem spec_KeyOk_ok : CalleeOk Try.prog rowU 197 spec_KeyOk_C := by
  refine calleeP (nl := false) (m0 := 0) (T := [(160, spec_l1In_C), (248, spec_Exact_C)]) (H := []) (TabOk.cons spec_l1In_ok (TabOk.cons spec_Exact_ok TabOk.nil)) (by kernel_rfl) (by kernel_rfl) (fun p hp => nomatch hp) fun ρ vs W K r h => ?_
  obtain ⟨a, ha, h1⟩ := Option.bind_eq_some_iff.1 h
  clear h
  obtain ⟨rfl, rfl⟩ := spec_KeyOk_D_ok ha
  obtain ⟨q, hq, h2⟩ := Option.bind_eq_some_iff.1 h1
  exact ⟨_, _, h2, (spec_KeyOk_nf a _ _).trans ((spec_KeyOk_bind a _).trans (by rw [hq]; rfl))⟩
/-! loop.example/g00249/spec.KeyWord -/
noncomputable def spec_KeyWord_K (x0 : GKey) (x1 : Int) {ρ : Type} (K : GWord → Option ρ) : Option ρ :=
  Option.bind (spec_Plain x1) fun r1 =>
  Option.bind (spec_KeyOk x0) fun r2 =>
  cond r2
    (K (⟨r1.n, true, x0⟩ : GWord))
    (K r1)
noncomputable def spec_KeyWord (x0 : GKey) (x1 : Int) : Option (GWord) := spec_KeyWord_K x0 x1 some
theorem spec_KeyWord_bind (x0 : GKey) (x1 : Int) {ρ : Type} (K : GWord → Option ρ) : spec_KeyWord_K x0 x1 K = (spec_KeyWord x0 x1).bind K := by
  simp only [spec_KeyWord, spec_KeyWord_K, Option.bind_assoc, Option.bind_some, Option.bind_none, cond_bind, sumK_bind]
noncomputable def spec_KeyWord_E : Env Row := envN false 179 0 [(239, spec_Plain_C), (197, spec_KeyOk_C)] []
theorem spec_KeyWord_nf (x0 : GKey) (x1 : Int) (ρ : Type) (K : V → Heap Row → Option ρ) : evBody rowU spec_KeyWord_E (bodyC 179) [.a [.int .i64 x0.base, .int .i64 x0.top, .int .i64 x0.perms, .int .i64 x0.seal_], .c (.int .i64 x1)] [] K = spec_KeyWord_K x0 x1 (fun r => K (.a [.int .i64 r.n, .bool r.is, .int .i64 r.key.base, .int .i64 r.key.top, .int .i64 r.key.perms, .int .i64 r.key.seal_]) []) := by kernel_rfl
def spec_KeyWord_D : List V → Heap Row → Option (GKey × Int)
  | [.a (.int .i64 v1 :: .int .i64 v2 :: .int .i64 v3 :: .int .i64 v4 :: []), .c (.int .i64 v5)], [] => some (⟨v1, v2, v3, v4⟩, v5)
  | _, _ => none
theorem spec_KeyWord_D_ok {vs : List V} {W : Heap Row} {a : GKey × Int} (h : spec_KeyWord_D vs W = some a) : vs = [.a [.int .i64 (a.1).base, .int .i64 (a.1).top, .int .i64 (a.1).perms, .int .i64 (a.1).seal_], .c (.int .i64 (a.2))] ∧ W = [] := by
  unfold spec_KeyWord_D at h
  split at h
  · simp at h; subst h; exact ⟨rfl, rfl⟩
  · simp at h
noncomputable def spec_KeyWord_C : Callee Row := ⟨[], fun _ vs W K => (spec_KeyWord_D vs W).bind fun a => (spec_KeyWord a.1 a.2).bind fun r => K (.a [.int .i64 r.n, .bool r.is, .int .i64 r.key.base, .int .i64 r.key.top, .int .i64 r.key.perms, .int .i64 r.key.seal_]) []⟩
theorem spec_KeyWord_ok : CalleeOk Try.prog rowU 179 spec_KeyWord_C := by
  refine calleeP (nl := false) (m0 := 0) (T := [(239, spec_Plain_C), (197, spec_KeyOk_C)]) (H := []) (TabOk.cons spec_Plain_ok (TabOk.cons spec_KeyOk_ok TabOk.nil)) (by kernel_rfl) (by kernel_rfl) (fun p hp => nomatch hp) fun ρ vs W K r h => ?_
  obtain ⟨a, ha, h1⟩ := Option.bind_eq_some_iff.1 h
  clear h
  obtain ⟨rfl, rfl⟩ := spec_KeyWord_D_ok ha
  obtain ⟨q, hq, h2⟩ := Option.bind_eq_some_iff.1 h1
  exact ⟨_, _, h2, (spec_KeyWord_nf (a.1) (a.2) _ _).trans ((spec_KeyWord_bind (a.1) (a.2) _).trans (by rw [hq]; rfl))⟩
/-! loop.example/g00249/spec.l3DrawRight -/
noncomputable def spec_l3DrawRight_K (x0 : GL1Cur) {ρ : Type} (K : GWord × Int × Int → Option ρ) : Option ρ :=
  Option.bind (spec_l1Once x0 3) fun r1 =>
  cond r1.1
    (Option.bind (spec_l1PickInt (⟨x0.b, r1.2.1, r1.2.2⟩ : GL1Cur) [0, 1, 2, 5, 31, 65535]) fun r2 =>
    Option.bind (spec_Plain r2.1) fun r3 =>
    K (r3, r2.2.1, r2.2.2))
    (Option.bind (spec_l2DrawRight (⟨x0.b, r1.2.1, r1.2.2⟩ : GL1Cur)) fun r4 =>
    Option.bind (spec_l1PickInt (⟨x0.b, r4.2.1, r4.2.2⟩ : GL1Cur) [r4.1.base, r4.1.base, w64 (r4.1.base + 1), r4.1.top, 3, 1]) fun r5 =>
    Option.bind (spec_KeyWord r4.1 r5.1) fun r6 =>
    K (r6, r5.2.1, r5.2.2))
noncomputable def spec_l3DrawRight (x0 : GL1Cur) : Option (GWord × Int × Int) := spec_l3DrawRight_K x0 some
theorem spec_l3DrawRight_bind (x0 : GL1Cur) {ρ : Type} (K : GWord × Int × Int → Option ρ) : spec_l3DrawRight_K x0 K = (spec_l3DrawRight x0).bind K := by
  simp only [spec_l3DrawRight, spec_l3DrawRight_K, Option.bind_assoc, Option.bind_some, Option.bind_none, cond_bind, sumK_bind]
noncomputable def spec_l3DrawRight_E : Env Row := envN false 183 2 [(241, spec_l1Once_C), (147, spec_l1PickInt_C), (239, spec_Plain_C), (242, spec_l2DrawRight_C), (179, spec_KeyWord_C)] []
theorem spec_l3DrawRight_nf (x0 : GL1Cur) (ρ : Type) (K : V → Heap Row → Option ρ) : evBody rowU spec_l3DrawRight_E (bodyC 183) [.c (.ptr 0 0)] [⟨.box [.sl 1 0, .int .i64 x0.i, .int .i64 x0.h], 0, 2⟩, ⟨.row ⟨.byte, x0.b⟩, 0, 1⟩] K = spec_l3DrawRight_K x0 (fun r => K (.a [.int .i64 r.1.n, .bool r.1.is, .int .i64 r.1.key.base, .int .i64 r.1.key.top, .int .i64 r.1.key.perms, .int .i64 r.1.key.seal_]) [⟨.box [.sl 1 0, .int .i64 r.2.1, .int .i64 r.2.2], 0, 2⟩, ⟨.row ⟨.byte, x0.b⟩, 0, 1⟩]) := by kernel_rfl
def spec_l3DrawRight_D : List V → Heap Row → Option (GL1Cur)
  | [.c (.ptr 0 0)], [⟨.box [.sl 1 0, .int .i64 v1, .int .i64 v2], 0, 2⟩, ⟨.row ⟨.byte, v3⟩, 0, 1⟩] => some (⟨v3, v1, v2⟩)
  | _, _ => none
theorem spec_l3DrawRight_D_ok {vs : List V} {W : Heap Row} {a : GL1Cur} (h : spec_l3DrawRight_D vs W = some a) : vs = [.c (.ptr 0 0)] ∧ W = [⟨.box [.sl 1 0, .int .i64 (a).i, .int .i64 (a).h], 0, 2⟩, ⟨.row ⟨.byte, (a).b⟩, 0, 1⟩] := by
  unfold spec_l3DrawRight_D at h
  split at h
  · simp at h; subst h; exact ⟨rfl, rfl⟩
  · simp at h
noncomputable def spec_l3DrawRight_C : Callee Row := ⟨[(true, 3), (false, 0)], fun _ vs W K => (spec_l3DrawRight_D vs W).bind fun a => (spec_l3DrawRight a).bind fun r => K (.a [.int .i64 r.1.n, .bool r.1.is, .int .i64 r.1.key.base, .int .i64 r.1.key.top, .int .i64 r.1.key.perms, .int .i64 r.1.key.seal_]) [⟨.box [.sl 1 0, .int .i64 r.2.1, .int .i64 r.2.2], 0, 2⟩, ⟨.row ⟨.byte, (a).b⟩, 0, 1⟩]⟩
theorem spec_l3DrawRight_ok : CalleeOk Try.prog rowU 183 spec_l3DrawRight_C := by
  refine calleeP (nl := false) (m0 := 2) (T := [(241, spec_l1Once_C), (147, spec_l1PickInt_C), (239, spec_Plain_C), (242, spec_l2DrawRight_C), (179, spec_KeyWord_C)]) (H := []) (TabOk.cons spec_l1Once_ok (TabOk.cons spec_l1PickInt_ok (TabOk.cons spec_Plain_ok (TabOk.cons spec_l2DrawRight_ok (TabOk.cons spec_KeyWord_ok TabOk.nil))))) (by kernel_rfl) (by kernel_rfl) (fun p hp => nomatch hp) fun ρ vs W K r h => ?_
  obtain ⟨a, ha, h1⟩ := Option.bind_eq_some_iff.1 h
  clear h
  obtain ⟨rfl, rfl⟩ := spec_l3DrawRight_D_ok ha
  obtain ⟨q, hq, h2⟩ := Option.bind_eq_some_iff.1 h1
  exact ⟨_, _, h2, (spec_l3DrawRight_nf a _ _).trans ((spec_l3DrawRight_bind a _).trans (by rw [hq]; rfl))⟩
/-! loop.example/g00249/spec.l8DrawRight -/
noncomputable def spec_l8DrawRight_L0_K (l2 : List Int) (l4 : List Bool) (n0 : Int) (n1 : Int) (l3 : List GWord) (n5 : Int) {ρ : Type} (A : Int × Int × List GWord × Int → Option ρ) (X : Int × Int × List GWord → Option ρ) (R : Unit → Option ρ) : Option ρ :=
  Option.bind (spec_l1Below (⟨l2, n0, n1⟩ : GL1Cur) 12) fun r2 =>
  cond (decide (n5 < r2.1))
    (Option.bind (spec_l1Below (⟨l2, r2.2.1, r2.2.2⟩ : GL1Cur) 24) fun r3 =>
    Option.bind (spec_l3DrawRight (⟨l2, r3.2.1, r3.2.2⟩ : GL1Cur)) fun r4 =>
    cond (decide (0 ≤ r3.1)) (cond (decide (r3.1 < (((l3.length : Nat) : Int)))) (A (r4.2.1, r4.2.2, List.set l3 (r3.1.toNat) r4.1, w64 (n5 + 1))) none) none)
    (X (r2.2.1, r2.2.2, l3))
noncomputable def spec_l8DrawRight_L0_step (l2 : List Int) (l4 : List Bool) (s : Int × Int × List GWord × Int) : Option (Rnd (Int × Int × List GWord × Int) (Int × Int × List GWord) (Unit)) := spec_l8DrawRight_L0_K l2 l4 (s.1) (s.2.1) (s.2.2.1) (s.2.2.2) (fun s => some (.again s)) (fun t => some (.exit t)) (fun k => some (.ret k))
theorem spec_l8DrawRight_L0_bind (l2 : List Int) (l4 : List Bool) (s : Int × Int × List GWord × Int) {ρ : Type} (A : Int × Int × List GWord × Int → Option ρ) (X : Int × Int × List GWord → Option ρ) (R : Unit → Option ρ) : spec_l8DrawRight_L0_K l2 l4 (s.1) (s.2.1) (s.2.2.1) (s.2.2.2) A X R = (spec_l8DrawRight_L0_step l2 l4 s).bind (rndE A X R) := by
  simp only [spec_l8DrawRight_L0_step, spec_l8DrawRight_L0_K, Option.bind_assoc, Option.bind_some, Option.bind_none, cond_bind, sumK_bind, rndE_again, rndE_exit, rndE_ret]
def spec_l8DrawRight_L0_st (p : List Int × List Bool) (s : Int × Int × List GWord × Int) : List V × Heap Row := ([.c (.ptr 0 0), .c (.ptr 2 0), .c (.ptr 3 0), .c (.int .i64 (s.2.2.2))], [⟨.box [.sl 1 0, .int .i64 (s.1), .int .i64 (s.2.1)], 0, 2⟩, ⟨.row ⟨.byte, p.1⟩, 0, 1⟩, ⟨.box [.nils 3, .nils 1], 0, 2⟩, ⟨.box [.sl 4 0, .sl 5 0], 0, 2⟩, ⟨.row ⟨.word, s.2.2.1⟩, 0, 2⟩, ⟨.row ⟨.bool, p.2⟩, 0, 2⟩])
def spec_l8DrawRight_L0_so (p : List Int × List Bool) (t : Int × Int × List GWord) : List V × Heap Row := ([.c (.ptr 0 0), .c (.ptr 2 0), .c (.ptr 3 0)], [⟨.box [.sl 1 0, .int .i64 (t).1, .int .i64 (t).2.1], 0, 2⟩, ⟨.row ⟨.byte, p.1⟩, 0, 1⟩, ⟨.box [.nils 3, .nils 1], 0, 2⟩, ⟨.box [.sl 4 0, .sl 5 0], 0, 2⟩, ⟨.row ⟨.word, (t).2.2⟩, 0, 2⟩, ⟨.row ⟨.bool, p.2⟩, 0, 2⟩])
def spec_l8DrawRight_L0_D : List V → Heap Row → Option ((List Int × List Bool) × (Int × Int × List GWord × Int))
  | [.c (.ptr 0 0), .c (.ptr 2 0), .c (.ptr 3 0), .c (.int .i64 v1)], [⟨.box [.sl 1 0, .int .i64 v2, .int .i64 v3], 0, 2⟩, ⟨.row ⟨.byte, v4⟩, 0, 1⟩, ⟨.box [.nils 3, .nils 1], 0, 2⟩, ⟨.box [.sl 4 0, .sl 5 0], 0, 2⟩, ⟨.row ⟨.word, v5⟩, 0, 2⟩, ⟨.row ⟨.bool, v6⟩, 0, 2⟩] => some ((v4, v6), (v2, v3, v5, v1))
  | _, _ => none
theorem spec_l8DrawRight_L0_D_ok (vs : List V) (L : Heap Row) (p : List Int × List Bool) (s : Int × Int × List GWord × Int) (h : spec_l8DrawRight_L0_D vs L = some (p, s)) : spec_l8DrawRight_L0_st p s = (vs, L) := by
  unfold spec_l8DrawRight_L0_D at h
  split at h
  · simp at h; obtain ⟨rfl, rfl⟩ := h; rfl
  · simp at h
noncomputable def spec_l8DrawRight_L0_H : LoopH Row := loopX [0, 2, 3, 4] [0, 2, 3] spec_l8DrawRight_L0_D (fun p => spec_l8DrawRight_L0_step (p.1) (p.2)) spec_l8DrawRight_L0_so
noncomputable def spec_l8DrawRight_L2_K (l2 : List Int) (l3 : List GWord) (n0 : Int) (n1 : Int) (l4 : List Bool) (n5 : Int) {ρ : Type} (A : Int × Int × List Bool × Int → Option ρ) (X : Int × Int × List Bool → Option ρ) (R : Unit → Option ρ) : Option ρ :=
  Option.bind (spec_l1Below (⟨l2, n0, n1⟩ : GL1Cur) 4) fun r6 =>
  cond (decide (n5 < r6.1))
    (Option.bind (spec_l1Below (⟨l2, r6.2.1, r6.2.2⟩ : GL1Cur) 24) fun r7 =>
    cond (decide (0 ≤ r7.1)) (cond (decide (r7.1 < (((l4.length : Nat) : Int)))) (A (r7.2.1, r7.2.2, List.set l4 (r7.1.toNat) true, w64 (n5 + 1))) none) none)
    (X (r6.2.1, r6.2.2, l4))
noncomputable def spec_l8DrawRight_L2_step (l2 : List Int) (l3 : List GWord) (s : Int × Int × List Bool × Int) : Option (Rnd (Int × Int × List Bool × Int) (Int × Int × List Bool) (Unit)) := spec_l8DrawRight_L2_K l2 l3 (s.1) (s.2.1) (s.2.2.1) (s.2.2.2) (fun s => some (.again s)) (fun t => some (.exit t)) (fun k => some (.ret k))
theorem spec_l8DrawRight_L2_bind (l2 : List Int) (l3 : List GWord) (s : Int × Int × List Bool × Int) {ρ : Type} (A : Int × Int × List Bool × Int → Option ρ) (X : Int × Int × List Bool → Option ρ) (R : Unit → Option ρ) : spec_l8DrawRight_L2_K l2 l3 (s.1) (s.2.1) (s.2.2.1) (s.2.2.2) A X R = (spec_l8DrawRight_L2_step l2 l3 s).bind (rndE A X R) := by
  simp only [spec_l8DrawRight_L2_step, spec_l8DrawRight_L2_K, Option.bind_assoc, Option.bind_some, Option.bind_none, cond_bind, sumK_bind, rndE_again, rndE_exit, rndE_ret]
def spec_l8DrawRight_L2_st (p : List Int × List GWord) (s : Int × Int × List Bool × Int) : List V × Heap Row := ([.c (.ptr 0 0), .c (.ptr 2 0), .c (.ptr 3 0), .c (.int .i64 (s.2.2.2))], [⟨.box [.sl 1 0, .int .i64 (s.1), .int .i64 (s.2.1)], 0, 2⟩, ⟨.row ⟨.byte, p.1⟩, 0, 1⟩, ⟨.box [.nils 3, .nils 1], 0, 2⟩, ⟨.box [.sl 4 0, .sl 5 0], 0, 2⟩, ⟨.row ⟨.word, p.2⟩, 0, 2⟩, ⟨.row ⟨.bool, s.2.2.1⟩, 0, 2⟩])
def spec_l8DrawRight_L2_so (p : List Int × List GWord) (t : Int × Int × List Bool) : List V × Heap Row := ([.c (.ptr 2 0), .c (.ptr 3 0)], [⟨.box [.sl 1 0, .int .i64 (t).1, .int .i64 (t).2.1], 0, 2⟩, ⟨.row ⟨.byte, p.1⟩, 0, 1⟩, ⟨.box [.nils 3, .nils 1], 0, 2⟩, ⟨.box [.sl 4 0, .sl 5 0], 0, 2⟩, ⟨.row ⟨.word, p.2⟩, 0, 2⟩, ⟨.row ⟨.bool, (t).2.2⟩, 0, 2⟩])
def spec_l8DrawRight_L2_D : List V → Heap Row → Option ((List Int × List GWord) × (Int × Int × List Bool × Int))
  | [.c (.ptr 0 0), .c (.ptr 2 0), .c (.ptr 3 0), .c (.int .i64 v1)], [⟨.box [.sl 1 0, .int .i64 v2, .int .i64 v3], 0, 2⟩, ⟨.row ⟨.byte, v4⟩, 0, 1⟩, ⟨.box [.nils 3, .nils 1], 0, 2⟩, ⟨.box [.sl 4 0, .sl 5 0], 0, 2⟩, ⟨.row ⟨.word, v5⟩, 0, 2⟩, ⟨.row ⟨.bool, v6⟩, 0, 2⟩] => some ((v4, v5), (v2, v3, v6, v1))
  | _, _ => none
theorem spec_l8DrawRight_L2_D_ok (vs : List V) (L : Heap Row) (p : List Int × List GWord) (s : Int × Int × List Bool × Int) (h : spec_l8DrawRight_L2_D vs L = some (p, s)) : spec_l8DrawRight_L2_st p s = (vs, L) := by
  unfold spec_l8DrawRight_L2_D at h
  split at h
  · simp at h; obtain ⟨rfl, rfl⟩ := h; rfl
  · simp at h
noncomputable def spec_l8DrawRight_L2_H : LoopH Row := loopX [0, 2, 3, 5] [2, 3] spec_l8DrawRight_L2_D (fun p => spec_l8DrawRight_L2_step (p.1) (p.2)) spec_l8DrawRight_L2_so
theorem spec_l8DrawRight_L0_nf (p : List Int × List Bool) (s : Int × Int × List GWord × Int) (ρ : Type) (again Kx Kr : List V → Heap Row → Option ρ) : evRound rowU (envOf 155 2 [(189, spec_MemoryNew_C), (110, spec_l1Below_C), (183, spec_l3DrawRight_C)] [(0, spec_l8DrawRight_L0_H), (2, spec_l8DrawRight_L2_H)]) 0 spec_l8DrawRight_L0_H (loopC 155 0) again (spec_l8DrawRight_L0_st p s).1 (spec_l8DrawRight_L0_st p s).2 Kx Kr = spec_l8DrawRight_L0_K (p.1) (p.2) (s.1) (s.2.1) (s.2.2.1) (s.2.2.2) (fun s => again (spec_l8DrawRight_L0_st p s).1 (spec_l8DrawRight_L0_st p s).2) (fun t => Kx (spec_l8DrawRight_L0_so p t).1 (spec_l8DrawRight_L0_so p t).2) (fun _ => none) := by kernel_rfl
theorem spec_l8DrawRight_L0_ok (hb : LoopsOk Try.prog rowU (envOf 155 2 [(189, spec_MemoryNew_C), (110, spec_l1Below_C), (183, spec_l3DrawRight_C)] [(0, spec_l8DrawRight_L0_H), (2, spec_l8DrawRight_L2_H)]) (loopAt (codeP 155) 0)) : LoopOk Try.prog rowU (envOf 155 2 [(189, spec_MemoryNew_C), (110, spec_l1Below_C), (183, spec_l3DrawRight_C)] [(0, spec_l8DrawRight_L0_H), (2, spec_l8DrawRight_L2_H)]) 0 (loopAt (codeP 155) 0) spec_l8DrawRight_L0_H :=
  loopX_ok tagOk mixed envNl (envT (TabOk.cons spec_MemoryNew_ok (TabOk.cons spec_l1Below_ok (TabOk.cons spec_l3DrawRight_ok TabOk.nil)))) hb spec_l8DrawRight_L0_st spec_l8DrawRight_L0_D_ok fun p s ρ A Kx Kr => (spec_l8DrawRight_L0_nf p s ρ A Kx Kr).trans (spec_l8DrawRight_L0_bind (p.1) (p.2) s _ _ _)
theorem spec_l8DrawRight_L2_nf (p : List Int × List GWord) (s : Int × Int × List Bool × Int) (ρ : Type) (again Kx Kr : List V → Heap Row → Option ρ) : evRound rowU (envOf 155 2 [(189, spec_MemoryNew_C), (110, spec_l1Below_C), (183, spec_l3DrawRight_C)] [(0, spec_l8DrawRight_L0_H), (2, spec_l8DrawRight_L2_H)]) 2 spec_l8DrawRight_L2_H (loopC 155 2) again (spec_l8DrawRight_L2_st p s).1 (spec_l8DrawRight_L2_st p s).2 Kx Kr = spec_l8DrawRight_L2_K (p.1) (p.2) (s.1) (s.2.1) (s.2.2.1) (s.2.2.2) (fun s => again (spec_l8DrawRight_L2_st p s).1 (spec_l8DrawRight_L2_st p s).2) (fun t => Kx (spec_l8DrawRight_L2_so p t).1 (spec_l8DrawRight_L2_so p t).2) (fun _ => none) := by kernel_rfl
theorem spec_l8DrawRight_L2_ok (hb : LoopsOk Try.prog rowU (envOf 155 2 [(189, spec_MemoryNew_C), (110, spec_l1Below_C), (183, spec_l3DrawRight_C)] [(0, spec_l8DrawRight_L0_H), (2, spec_l8DrawRight_L2_H)]) (loopAt (codeP 155) 2)) : LoopOk Try.prog rowU (envOf 155 2 [(189, spec_MemoryNew_C), (110, spec_l1Below_C), (183, spec_l3DrawRight_C)] [(0, spec_l8DrawRight_L0_H), (2, spec_l8DrawRight_L2_H)]) 2 (loopAt (codeP 155) 2) spec_l8DrawRight_L2_H :=
  loopX_ok tagOk mixed envNl (envT (TabOk.cons spec_MemoryNew_ok (TabOk.cons spec_l1Below_ok (TabOk.cons spec_l3DrawRight_ok TabOk.nil)))) hb spec_l8DrawRight_L2_st spec_l8DrawRight_L2_D_ok fun p s ρ A Kx Kr => (spec_l8DrawRight_L2_nf p s ρ A Kx Kr).trans (spec_l8DrawRight_L2_bind (p.1) (p.2) s _ _ _)
noncomputable def spec_l8DrawRight_K (x0 : GL1Cur) {ρ : Type} (K : GMemory × Int × Int → Option ρ) : Option ρ :=
  Option.bind (spec_MemoryNew ) fun r1 =>
  Option.bind (runX (spec_l8DrawRight_L0_step x0.b r1.gone) (x0.i, x0.h, r1.words, 0)) fun t5 =>
  Option.bind (runX (spec_l8DrawRight_L2_step x0.b t5.2.2) (t5.1, t5.2.1, r1.gone, 0)) fun t8 =>
  K ((⟨t5.2.2, t8.2.2⟩ : GMemory), t8.1, t8.2.1)
noncomputable def spec_l8DrawRight (x0 : GL1Cur) : Option (GMemory × Int × Int) := spec_l8DrawRight_K x0 some
theorem spec_l8DrawRight_bind (x0 : GL1Cur) {ρ : Type} (K : GMemory × Int × Int → Option ρ) : spec_l8DrawRight_K x0 K = (spec_l8DrawRight x0).bind K := by
  simp only [spec_l8DrawRight, spec_l8DrawRight_K, Option.bind_assoc, Option.bind_some, Option.bind_none, cond_bind, sumK_bind]
noncomputable def spec_l8DrawRight_E : Env Row := envN false 155 2 [(189, spec_MemoryNew_C), (110, spec_l1Below_C), (183, spec_l3DrawRight_C)] [(0, spec_l8DrawRight_L0_H), (2, spec_l8DrawRight_L2_H)]
theorem spec_l8DrawRight_nf (x0 : GL1Cur) (ρ : Type) (K : V → Heap Row → Option ρ) : evBody rowU spec_l8DrawRight_E (bodyC 155) [.c (.ptr 0 0)] [⟨.box [.sl 1 0, .int .i64 x0.i, .int .i64 x0.h], 0, 2⟩, ⟨.row ⟨.byte, x0.b⟩, 0, 1⟩] K = spec_l8DrawRight_K x0 (fun r => K (.a [.sl 2 0, .sl 3 0]) [⟨.box [.sl 1 0, .int .i64 r.2.1, .int .i64 r.2.2], 0, 2⟩, ⟨.row ⟨.byte, x0.b⟩, 0, 1⟩, ⟨.row ⟨.word, r.1.words⟩, 0, 2⟩, ⟨.row ⟨.bool, r.1.gone⟩, 0, 2⟩]) := by kernel_rfl
def spec_l8DrawRight_D : List V → Heap Row → Option (GL1Cur)
  | [.c (.ptr 0 0)], [⟨.box [.sl 1 0, .int .i64 v1, .int .i64 v2], 0, 2⟩, ⟨.row ⟨.byte, v3⟩, 0, 1⟩] => some (⟨v3, v1, v2⟩)
  | _, _ => none
theorem spec_l8DrawRight_D_ok {vs : List V} {W : Heap Row} {a : GL1Cur} (h : spec_l8DrawRight_D vs W = some a) : vs = [.c (.ptr 0 0)] ∧ W = [⟨.box [.sl 1 0, .int .i64 (a).i, .int .i64 (a).h], 0, 2⟩, ⟨.row ⟨.byte, (a).b⟩, 0, 1⟩] := by
  unfold spec_l8DrawRight_D at h
  split at h
  · simp at h; subst h; exact ⟨rfl, rfl⟩
  · simp at h
noncomputable def spec_l8DrawRight_C : Callee Row := ⟨[(true, 3), (false, 0)], fun _ vs W K => (spec_l8DrawRight_D vs W).bind fun a => (spec_l8DrawRight a).bind fun r => K (.a [.sl 2 0, .sl 3 0]) [⟨.box [.sl 1 0, .int .i64 r.2.1, .int .i64 r.2.2], 0, 2⟩, ⟨.row ⟨.byte, (a).b⟩, 0, 1⟩, ⟨.row ⟨.word, r.1.words⟩, 0, 2⟩, ⟨.row ⟨.bool, r.1.gone⟩, 0, 2⟩]⟩
theorem spec_l8DrawRight_ok : CalleeOk Try.prog rowU 155 spec_l8DrawRight_C := by
  refine calleeP (nl := false) (m0 := 2) (T := [(189, spec_MemoryNew_C), (110, spec_l1Below_C), (183, spec_l3DrawRight_C)]) (H := [(0, spec_l8DrawRight_L0_H), (2, spec_l8DrawRight_L2_H)]) (TabOk.cons spec_MemoryNew_ok (TabOk.cons spec_l1Below_ok (TabOk.cons spec_l3DrawRight_ok TabOk.nil))) (by kernel_rfl) (by kernel_rfl) (fun p hp hb => by
    simp only [List.mem_cons, List.not_mem_nil, or_false] at hp
    rcases hp with rfl | rfl
    · exact spec_l8DrawRight_L0_ok hb
    · exact spec_l8DrawRight_L2_ok hb) fun ρ vs W K r h => ?_
  obtain ⟨a, ha, h1⟩ := Option.bind_eq_some_iff.1 h
  clear h
  obtain ⟨rfl, rfl⟩ := spec_l8DrawRight_D_ok ha
  obtain ⟨q, hq, h2⟩ := Option.bind_eq_some_iff.1 h1
  exact ⟨_, _, h2, (spec_l8DrawRight_nf a _ _).trans ((spec_l8DrawRight_bind a _).trans (by rw [hq]; rfl))⟩
/-! loop.example/g00249/spec.l2Draw -/
def spec_l2Draw_K (x0 : GL1Cur) {ρ : Type} (K : GKey × Int × Int → Option ρ) : Option ρ :=
  Option.bind (spec_l2DrawRight x0) fun r1 =>
  Option.bind (spec_l1Below (⟨x0.b, r1.2.1, r1.2.2⟩ : GL1Cur) 12) fun r2 =>
  cond (r2.1 == 0)
    (Option.bind (spec_l1PickInt (⟨x0.b, r2.2.1, r2.2.2⟩ : GL1Cur) [-1, 65, 97, 5000]) fun r3 =>
    K ((⟨r1.1.base, w64 (r1.1.base + r3.1), r1.1.perms, r1.1.seal_⟩ : GKey), r3.2.1, r3.2.2))
    (cond (r2.1 == 1)
      (Option.bind (spec_l1PickInt (⟨x0.b, r2.2.1, r2.2.2⟩ : GL1Cur) [-1, 64]) fun r4 =>
      K ((⟨r1.1.base, r1.1.top, r4.1, r1.1.seal_⟩ : GKey), r4.2.1, r4.2.2))
      (cond (r2.1 == 2)
        (Option.bind (spec_l1PickInt (⟨x0.b, r2.2.1, r2.2.2⟩ : GL1Cur) [-1, 8]) fun r5 =>
        K ((⟨r1.1.base, r1.1.top, r1.1.perms, r5.1⟩ : GKey), r5.2.1, r5.2.2))
        (K (r1.1, r2.2.1, r2.2.2))))
def spec_l2Draw (x0 : GL1Cur) : Option (GKey × Int × Int) := spec_l2Draw_K x0 some
theorem spec_l2Draw_bind (x0 : GL1Cur) {ρ : Type} (K : GKey × Int × Int → Option ρ) : spec_l2Draw_K x0 K = (spec_l2Draw x0).bind K := by
  simp only [spec_l2Draw, spec_l2Draw_K, Option.bind_assoc, Option.bind_some, Option.bind_none, cond_bind, sumK_bind]
noncomputable def spec_l2Draw_E : Env Row := envN false 195 2 [(110, spec_l1Below_C), (147, spec_l1PickInt_C), (242, spec_l2DrawRight_C)] []
theorem spec_l2Draw_nf (x0 : GL1Cur) (ρ : Type) (K : V → Heap Row → Option ρ) : evBody rowU spec_l2Draw_E (bodyC 195) [.c (.ptr 0 0)] [⟨.box [.sl 1 0, .int .i64 x0.i, .int .i64 x0.h], 0, 2⟩, ⟨.row ⟨.byte, x0.b⟩, 0, 1⟩] K = spec_l2Draw_K x0 (fun r => K (.a [.int .i64 r.1.base, .int .i64 r.1.top, .int .i64 r.1.perms, .int .i64 r.1.seal_]) [⟨.box [.sl 1 0, .int .i64 r.2.1, .int .i64 r.2.2], 0, 2⟩, ⟨.row ⟨.byte, x0.b⟩, 0, 1⟩]) := by kernel_rfl
def spec_l2Draw_D : List V → Heap Row → Option (GL1Cur)
  | [.c (.ptr 0 0)], [⟨.box [.sl 1 0, .int .i64 v1, .int .i64 v2], 0, 2⟩, ⟨.row ⟨.byte, v3⟩, 0, 1⟩] => some (⟨v3, v1, v2⟩)
  | _, _ => none
theorem spec_l2Draw_D_ok {vs : List V} {W : Heap Row} {a : GL1Cur} (h : spec_l2Draw_D vs W = some a) : vs = [.c (.ptr 0 0)] ∧ W = [⟨.box [.sl 1 0, .int .i64 (a).i, .int .i64 (a).h], 0, 2⟩, ⟨.row ⟨.byte, (a).b⟩, 0, 1⟩] := by
  unfold spec_l2Draw_D at h
  split at h
  · simp at h; subst h; exact ⟨rfl, rfl⟩
  · simp at h
def spec_l2Draw_C : Callee Row := ⟨[(true, 3), (false, 0)], fun _ vs W K => (spec_l2Draw_D vs W).bind fun a => (spec_l2Draw a).bind fun r => K (.a [.int .i64 r.1.base, .int .i64 r.1.top, .int .i64 r.1.perms, .int .i64 r.1.seal_]) [⟨.box [.sl 1 0, .int .i64 r.2.1, .int .i64 r.2.2], 0, 2⟩, ⟨.row ⟨.byte, (a).b⟩, 0, 1⟩]⟩
theorem spec_l2Draw_ok : CalleeOk Try.prog rowU 195 spec_l2Draw_C := by
  refine calleeP (nl := false) (m0 := 2) (T := [(110, spec_l1Below_C), (147, spec_l1PickInt_C), (242, spec_l2DrawRight_C)]) (H := []) (TabOk.cons spec_l1Below_ok (TabOk.cons spec_l1PickInt_ok (TabOk.cons spec_l2DrawRight_ok TabOk.nil))) (by kernel_rfl) (by kernel_rfl) (fun p hp => nomatch hp) fun ρ vs W K r h => ?_
  obtain ⟨a, ha, h1⟩ := Option.bind_eq_some_iff.1 h
  clear h
  obtain ⟨rfl, rfl⟩ := spec_l2Draw_D_ok ha
  obtain ⟨q, hq, h2⟩ := Option.bind_eq_some_iff.1 h1
  exact ⟨_, _, h2, (spec_l2Draw_nf a _ _).trans ((spec_l2Draw_bind a _).trans (by rw [hq]; rfl))⟩
/-! loop.example/g00249/spec.l3Draw -/
noncomputable def spec_l3Draw_K (x0 : GL1Cur) {ρ : Type} (K : GWord × Int × Int → Option ρ) : Option ρ :=
  Option.bind (spec_l3DrawRight x0) fun r1 =>
  Option.bind (spec_l1Below (⟨x0.b, r1.2.1, r1.2.2⟩ : GL1Cur) 12) fun r2 =>
  cond (r2.1 == 0)
    (Option.bind (spec_l1PickInt (⟨x0.b, r2.2.1, r2.2.2⟩ : GL1Cur) [-1, 65536, 9223372036854775807]) fun r3 =>
    K ((⟨r3.1, r1.1.is, r1.1.key⟩ : GWord), r3.2.1, r3.2.2))
    (cond (r2.1 == 1)
      (K ((⟨r1.1.n, !r1.1.is, r1.1.key⟩ : GWord), r2.2.1, r2.2.2))
      (cond (r2.1 == 2)
        (Option.bind (spec_l2Draw (⟨x0.b, r2.2.1, r2.2.2⟩ : GL1Cur)) fun r4 =>
        K ((⟨r1.1.n, r1.1.is, r4.1⟩ : GWord), r4.2.1, r4.2.2))
        (K (r1.1, r2.2.1, r2.2.2))))
noncomputable def spec_l3Draw (x0 : GL1Cur) : Option (GWord × Int × Int) := spec_l3Draw_K x0 some
theorem spec_l3Draw_bind (x0 : GL1Cur) {ρ : Type} (K : GWord × Int × Int → Option ρ) : spec_l3Draw_K x0 K = (spec_l3Draw x0).bind K := by
  simp only [spec_l3Draw, spec_l3Draw_K, Option.bind_assoc, Option.bind_some, Option.bind_none, cond_bind, sumK_bind]
noncomputable def spec_l3Draw_E : Env Row := envN false 111 2 [(110, spec_l1Below_C), (147, spec_l1PickInt_C), (183, spec_l3DrawRight_C), (195, spec_l2Draw_C)] []
theorem spec_l3Draw_nf (x0 : GL1Cur) (ρ : Type) (K : V → Heap Row → Option ρ) : evBody rowU spec_l3Draw_E (bodyC 111) [.c (.ptr 0 0)] [⟨.box [.sl 1 0, .int .i64 x0.i, .int .i64 x0.h], 0, 2⟩, ⟨.row ⟨.byte, x0.b⟩, 0, 1⟩] K = spec_l3Draw_K x0 (fun r => K (.a [.int .i64 r.1.n, .bool r.1.is, .int .i64 r.1.key.base, .int .i64 r.1.key.top, .int .i64 r.1.key.perms, .int .i64 r.1.key.seal_]) [⟨.box [.sl 1 0, .int .i64 r.2.1, .int .i64 r.2.2], 0, 2⟩, ⟨.row ⟨.byte, x0.b⟩, 0, 1⟩]) := by kernel_rfl
def spec_l3Draw_D : List V → Heap Row → Option (GL1Cur)
  | [.c (.ptr 0 0)], [⟨.box [.sl 1 0, .int .i64 v1, .int .i64 v2], 0, 2⟩, ⟨.row ⟨.byte, v3⟩, 0, 1⟩] => some (⟨v3, v1, v2⟩)
  | _, _ => none
theorem spec_l3Draw_D_ok {vs : List V} {W : Heap Row} {a : GL1Cur} (h : spec_l3Draw_D vs W = some a) : vs = [.c (.ptr 0 0)] ∧ W = [⟨.box [.sl 1 0, .int .i64 (a).i, .int .i64 (a).h], 0, 2⟩, ⟨.row ⟨.byte, (a).b⟩, 0, 1⟩] := by
  unfold spec_l3Draw_D at h
  split at h
  · simp at h; subst h; exact ⟨rfl, rfl⟩
  · simp at h
noncomputable def spec_l3Draw_C : Callee Row := ⟨[(true, 3), (false, 0)], fun _ vs W K => (spec_l3Draw_D vs W).bind fun a => (spec_l3Draw a).bind fun r => K (.a [.int .i64 r.1.n, .bool r.1.is, .int .i64 r.1.key.base, .int .i64 r.1.key.top, .int .i64 r.1.key.perms, .int .i64 r.1.key.seal_]) [⟨.box [.sl 1 0, .int .i64 r.2.1, .int .i64 r.2.2], 0, 2⟩, ⟨.row ⟨.byte, (a).b⟩, 0, 1⟩]⟩
theorem spec_l3Draw_ok : CalleeOk Try.prog rowU 111 spec_l3Draw_C := by
  refine calleeP (nl := false) (m0 := 2) (T := [(110, spec_l1Below_C), (147, spec_l1PickInt_C), (183, spec_l3DrawRight_C), (195, spec_l2Draw_C)]) (H := []) (TabOk.cons spec_l1Below_ok (TabOk.cons spec_l1PickInt_ok (TabOk.cons spec_l3DrawRight_ok (TabOk.cons spec_l2Draw_ok TabOk.nil)))) (by kernel_rfl) (by kernel_rfl) (fun p hp => nomatch hp) fun ρ vs W K r h => ?_
  obtain ⟨a, ha, h1⟩ := Option.bind_eq_some_iff.1 h
  clear h
  obtain ⟨rfl, rfl⟩ := spec_l3Draw_D_ok ha
  obtain ⟨q, hq, h2⟩ := Option.bind_eq_some_iff.1 h1
  exact ⟨_, _, h2, (spec_l3Draw_nf a _ _).trans ((spec_l3Draw_bind a _).trans (by rw [hq]; rfl))⟩
/-! loop.example/g00249/spec.l8Draw -/
noncomputable def spec_l8Draw_K (x0 : GL1Cur) {ρ : Type} (K : GMemory × Int × Int → Option ρ) : Option ρ :=
  Option.bind (spec_l8DrawRight x0) fun r1 =>
  Option.bind (spec_l1Below (⟨x0.b, r1.2.1, r1.2.2⟩ : GL1Cur) 15) fun r2 =>
  cond (r2.1 == 0)
    (cond (decide (1 ≤ (((r1.1.words.length : Nat) : Int)))) (cond (decide ((((r1.1.words.length : Nat) : Int)) ≤ (((r1.1.words.length : Nat) : Int)))) (K ((⟨cutL r1.1.words 1 (((((r1.1.words.length : Nat) : Int)) - 1).toNat), r1.1.gone⟩ : GMemory), r2.2.1, r2.2.2)) none) none)
    (cond (r2.1 == 1)
      (Option.bind (spec_l1Below (⟨x0.b, r2.2.1, r2.2.2⟩ : GL1Cur) 24) fun r3 =>
      Option.bind (spec_l3Draw (⟨x0.b, r3.2.1, r3.2.2⟩ : GL1Cur)) fun r4 =>
      cond (decide (0 ≤ r3.1)) (cond (decide (r3.1 < (((r1.1.words.length : Nat) : Int)))) (K ((⟨List.set r1.1.words (r3.1.toNat) r4.1, r1.1.gone⟩ : GMemory), r4.2.1, r4.2.2)) none) none)
      (cond (r2.1 == 2)
        (K ((⟨r1.1.words, []⟩ : GMemory), r2.2.1, r2.2.2))
        (K (r1.1, r2.2.1, r2.2.2))))
noncomputable def spec_l8Draw (x0 : GL1Cur) : Option (GMemory × Int × Int) := spec_l8Draw_K x0 some
theorem spec_l8Draw_bind (x0 : GL1Cur) {ρ : Type} (K : GMemory × Int × Int → Option ρ) : spec_l8Draw_K x0 K = (spec_l8Draw x0).bind K := by
  simp only [spec_l8Draw, spec_l8Draw_K, Option.bind_assoc, Option.bind_some, Option.bind_none, cond_bind, sumK_bind]
noncomputable def spec_l8Draw_E : Env Row := envN false 109 2 [(110, spec_l1Below_C), (155, spec_l8DrawRight_C), (111, spec_l3Draw_C)] []
theorem spec_l8Draw_nf (x0 : GL1Cur) (ρ : Type) (K : V → Heap Row → Option ρ) : evBody rowU spec_l8Draw_E (bodyC 109) [.c (.ptr 0 0)] [⟨.box [.sl 1 0, .int .i64 x0.i, .int .i64 x0.h], 0, 2⟩, ⟨.row ⟨.byte, x0.b⟩, 0, 1⟩] K = spec_l8Draw_K x0 (fun r => K (.a [.sl 2 0, .sl 3 0]) [⟨.box [.sl 1 0, .int .i64 r.2.1, .int .i64 r.2.2], 0, 2⟩, ⟨.row ⟨.byte, x0.b⟩, 0, 1⟩, ⟨.row ⟨.word, r.1.words⟩, 0, 2⟩, ⟨.row ⟨.bool, r.1.gone⟩, 0, 2⟩]) := by kernel_rfl
def spec_l8Draw_D : List V → Heap Row → Option (GL1Cur)
  | [.c (.ptr 0 0)], [⟨.box [.sl 1 0, .int .i64 v1, .int .i64 v2], 0, 2⟩, ⟨.row ⟨.byte, v3⟩, 0, 1⟩] => some (⟨v3, v1, v2⟩)
  | _, _ => none
theorem spec_l8Draw_D_ok {vs : List V} {W : Heap Row} {a : GL1Cur} (h : spec_l8Draw_D vs W = some a) : vs = [.c (.ptr 0 0)] ∧ W = [⟨.box [.sl 1 0, .int .i64 (a).i, .int .i64 (a).h], 0, 2⟩, ⟨.row ⟨.byte, (a).b⟩, 0, 1⟩] := by
  unfold spec_l8Draw_D at h
  split at h
  · simp at h; subst h; exact ⟨rfl, rfl⟩
  · simp at h
noncomputable def spec_l8Draw_C : Callee Row := ⟨[(true, 3), (false, 0)], fun _ vs W K => (spec_l8Draw_D vs W).bind fun a => (spec_l8Draw a).bind fun r => K (.a [.sl 2 0, .sl 3 0]) [⟨.box [.sl 1 0, .int .i64 r.2.1, .int .i64 r.2.2], 0, 2⟩, ⟨.row ⟨.byte, (a).b⟩, 0, 1⟩, ⟨.row ⟨.word, r.1.words⟩, 0, 2⟩, ⟨.row ⟨.bool, r.1.gone⟩, 0, 2⟩]⟩
theorem spec_l8Draw_ok : CalleeOk Try.prog rowU 109 spec_l8Draw_C := by
  refine calleeP (nl := false) (m0 := 2) (T := [(110, spec_l1Below_C), (155, spec_l8DrawRight_C), (111, spec_l3Draw_C)]) (H := []) (TabOk.cons spec_l1Below_ok (TabOk.cons spec_l8DrawRight_ok (TabOk.cons spec_l3Draw_ok TabOk.nil))) (by kernel_rfl) (by kernel_rfl) (fun p hp => nomatch hp) fun ρ vs W K r h => ?_
  obtain ⟨a, ha, h1⟩ := Option.bind_eq_some_iff.1 h
  clear h
  obtain ⟨rfl, rfl⟩ := spec_l8Draw_D_ok ha
  obtain ⟨q, hq, h2⟩ := Option.bind_eq_some_iff.1 h1
  exact ⟨_, _, h2, (spec_l8Draw_nf a _ _).trans ((spec_l8Draw_bind a _).trans (by rw [hq]; rfl))⟩
/-! loop.example/g00249/spec.DrawClosure -/
noncomputable def spec_DrawClosure_L0_K (l0 : List Int) (l4 : List GWord) (l5 : List Bool) (n1 : Int) (n2 : Int) (l3 : List GWord) (n6 : Int) {ρ : Type} (A : Int × Int × List GWord × Int → Option ρ) (X : List GWord → Option ρ) (R : Unit → Option ρ) : Option ρ :=
  Option.bind (spec_l1Below (⟨l0, n1, n2⟩ : GL1Cur) 4) fun r3 =>
  cond (decide (n6 < r3.1))
    (Option.bind (spec_l3Draw (⟨l0, r3.2.1, r3.2.2⟩ : GL1Cur)) fun r4 =>
    cond (decide ((((l3.length) + 1) * 48) ≤ 140737488355328)) (A (r4.2.1, r4.2.2, l3 ++ [r4.1], w64 (n6 + 1))) none)
    (X l3)
noncomputable def spec_DrawClosure_L0_step (l0 : List Int) (l4 : List GWord) (l5 : List Bool) (s : Int × Int × List GWord × Int) : Option (Rnd (Int × Int × List GWord × Int) (List GWord) (Unit)) := spec_DrawClosure_L0_K l0 l4 l5 (s.1) (s.2.1) (s.2.2.1) (s.2.2.2) (fun s => some (.again s)) (fun t => some (.exit t)) (fun k => some (.ret k))
theorem spec_DrawClosure_L0_bind (l0 : List Int) (l4 : List GWord) (l5 : List Bool) (s : Int × Int × List GWord × Int) {ρ : Type} (A : Int × Int × List GWord × Int → Option ρ) (X : List GWord → Option ρ) (R : Unit → Option ρ) : spec_DrawClosure_L0_K l0 l4 l5 (s.1) (s.2.1) (s.2.2.1) (s.2.2.2) A X R = (spec_DrawClosure_L0_step l0 l4 l5 s).bind (rndE A X R) := by
  simp only [spec_DrawClosure_L0_step, spec_DrawClosure_L0_K, Option.bind_assoc, Option.bind_some, Option.bind_none, cond_bind, sumK_bind, rndE_again, rndE_exit, rndE_ret]
def spec_DrawClosure_L0_st (p : List Int × List GWord × List Bool) (s : Int × Int × List GWord × Int) : List V × Heap Row := ([.c (.ptr 1 0), .c (.ptr 2 0), .c (.ptr 3 0), .c (.sl 4 0), .c (.int .i64 (s.2.2.2))], [⟨.row ⟨.byte, p.1⟩, 0, 1⟩, ⟨.box [.nils 3, .nils 1], 0, 2⟩, ⟨.box [.sl 0 0, .int .i64 (s.1), .int .i64 (s.2.1)], 0, 2⟩, ⟨.box [.sl 5 0, .sl 6 0], 0, 2⟩, ⟨.row ⟨.word, s.2.2.1⟩, 0, 2⟩, ⟨.row ⟨.word, p.2.1⟩, 0, 2⟩, ⟨.row ⟨.bool, p.2.2⟩, 0, 2⟩])
def spec_DrawClosure_L0_so (p : List Int × List GWord × List Bool) (t : List GWord) : List V × Heap Row := ([.c (.ptr 1 0), .c (.ptr 2 0), .c (.sl 3 0)], [⟨.row ⟨.byte, p.1⟩, 0, 1⟩, ⟨.box [.nils 3, .nils 1], 0, 2⟩, ⟨.box [.sl 4 0, .sl 5 0], 0, 2⟩, ⟨.row ⟨.word, t⟩, 0, 2⟩, ⟨.row ⟨.word, p.2.1⟩, 0, 2⟩, ⟨.row ⟨.bool, p.2.2⟩, 0, 2⟩])
def spec_DrawClosure_L0_D : List V → Heap Row → Option ((List Int × List GWord × List Bool) × (Int × Int × List GWord × Int))
  | [.c (.ptr 1 0), .c (.ptr 2 0), .c (.ptr 3 0), .c (.sl 4 0), .c (.int .i64 v1)], [⟨.row ⟨.byte, v2⟩, 0, 1⟩, ⟨.box [.nils 3, .nils 1], 0, 2⟩, ⟨.box [.sl 0 0, .int .i64 v3, .int .i64 v4], 0, 2⟩, ⟨.box [.sl 5 0, .sl 6 0], 0, 2⟩, ⟨.row ⟨.word, v5⟩, 0, 2⟩, ⟨.row ⟨.word, v6⟩, 0, 2⟩, ⟨.row ⟨.bool, v7⟩, 0, 2⟩] => some ((v2, v6, v7), (v3, v4, v5, v1))
  | _, _ => none
theorem spec_DrawClosure_L0_D_ok (vs : List V) (L : Heap Row) (p : List Int × List GWord × List Bool) (s : Int × Int × List GWord × Int) (h : spec_DrawClosure_L0_D vs L = some (p, s)) : spec_DrawClosure_L0_st p s = (vs, L) := by
  unfold spec_DrawClosure_L0_D at h
  split at h
  · simp at h; obtain ⟨rfl, rfl⟩ := h; rfl
  · simp at h
noncomputable def spec_DrawClosure_L0_H : LoopH Row := loopX [2, 4, 5, 6, 7] [2, 5, 6] spec_DrawClosure_L0_D (fun p => spec_DrawClosure_L0_step (p.1) (p.2.1) (p.2.2)) spec_DrawClosure_L0_so
theorem spec_DrawClosure_L0_nf (p : List Int × List GWord × List Bool) (s : Int × Int × List GWord × Int) (ρ : Type) (again Kx Kr : List V → Heap Row → Option ρ) : evRound rowU (envOf 17 1 [(108, spec_l1New_C), (110, spec_l1Below_C), (111, spec_l3Draw_C), (109, spec_l8Draw_C)] [(0, spec_DrawClosure_L0_H)]) 0 spec_DrawClosure_L0_H (loopC 17 0) again (spec_DrawClosure_L0_st p s).1 (spec_DrawClosure_L0_st p s).2 Kx Kr = spec_DrawClosure_L0_K (p.1) (p.2.1) (p.2.2) (s.1) (s.2.1) (s.2.2.1) (s.2.2.2) (fun s => again (spec_DrawClosure_L0_st p s).1 (spec_DrawClosure_L0_st p s).2) (fun t => Kx (spec_DrawClosure_L0_so p t).1 (spec_DrawClosure_L0_so p t).2) (fun _ => none) := by kernel_rfl
theorem spec_DrawClosure_L0_ok (hb : LoopsOk Try.prog rowU (envOf 17 1 [(108, spec_l1New_C), (110, spec_l1Below_C), (111, spec_l3Draw_C), (109, spec_l8Draw_C)] [(0, spec_DrawClosure_L0_H)]) (loopAt (codeP 17) 0)) : LoopOk Try.prog rowU (envOf 17 1 [(108, spec_l1New_C), (110, spec_l1Below_C), (111, spec_l3Draw_C), (109, spec_l8Draw_C)] [(0, spec_DrawClosure_L0_H)]) 0 (loopAt (codeP 17) 0) spec_DrawClosure_L0_H :=
  loopX_ok tagOk mixed envNl (envT (TabOk.cons spec_l1New_ok (TabOk.cons spec_l1Below_ok (TabOk.cons spec_l3Draw_ok (TabOk.cons spec_l8Draw_ok TabOk.nil))))) hb spec_DrawClosure_L0_st spec_DrawClosure_L0_D_ok fun p s ρ A Kx Kr => (spec_DrawClosure_L0_nf p s ρ A Kx Kr).trans (spec_DrawClosure_L0_bind (p.1) (p.2.1) (p.2.2) s _ _ _)
noncomputable def spec_DrawClosure_K (x0 : List Int) {ρ : Type} (K : GMemory × List GWord → Option ρ) : Option ρ :=
  Option.bind (spec_l1New x0) fun r1 =>
  Option.bind (spec_l8Draw (⟨x0, r1.i, r1.h⟩ : GL1Cur)) fun r2 =>
  Option.bind (runX (spec_DrawClosure_L0_step x0 r2.1.words r2.1.gone) (r2.2.1, r2.2.2, [], 0)) fun t5 =>
  K (r2.1, t5)
noncomputable def spec_DrawClosure (x0 : List Int) : Option (GMemory × List GWord) := spec_DrawClosure_K x0 some
theorem spec_DrawClosure_bind (x0 : List Int) {ρ : Type} (K : GMemory × List GWord → Option ρ) : spec_DrawClosure_K x0 K = (spec_DrawClosure x0).bind K := by
  simp only [spec_DrawClosure, spec_DrawClosure_K, Option.bind_assoc, Option.bind_some, Option.bind_none, cond_bind, sumK_bind]
noncomputable def spec_DrawClosure_E : Env Row := envN false 17 1 [(108, spec_l1New_C), (110, spec_l1Below_C), (111, spec_l3Draw_C), (109, spec_l8Draw_C)] [(0, spec_DrawClosure_L0_H)]
theorem spec_DrawClosure_nf (x0 : List Int) (ρ : Type) (K : V → Heap Row → Option ρ) : evBody rowU spec_DrawClosure_E (bodyC 17) [.c (.sl 0 0)] [⟨.row ⟨.byte, x0⟩, 0, 1⟩] K = spec_DrawClosure_K x0 (fun r => K (.t [(true, [.sl 1 0, .sl 2 0]), (false, [.sl 3 0])]) [⟨.row ⟨.byte, x0⟩, 0, 1⟩, ⟨.row ⟨.word, r.1.words⟩, 0, 2⟩, ⟨.row ⟨.bool, r.1.gone⟩, 0, 2⟩, ⟨.row ⟨.word, r.2⟩, 0, 2⟩]) := by kernel_rfl
def spec_DrawClosure_D : List V → Heap Row → Option (List Int)
  | [.c (.sl 0 0)], [⟨.row ⟨.byte, v1⟩, 0, 1⟩] => some (v1)
  | _, _ => none
theorem spec_DrawClosure_D_ok {vs : List V} {W : Heap Row} {a : List Int} (h : spec_DrawClosure_D vs W = some a) : vs = [.c (.sl 0 0)] ∧ W = [⟨.row ⟨.byte, a⟩, 0, 1⟩] := by
  unfold spec_DrawClosure_D at h
  split at h
  · simp at h; subst h; exact ⟨rfl, rfl⟩
  · simp at h
noncomputable def spec_DrawClosure_C : Callee Row := ⟨[(false, 0)], fun _ vs W K => (spec_DrawClosure_D vs W).bind fun a => (spec_DrawClosure a).bind fun r => K (.t [(true, [.sl 1 0, .sl 2 0]), (false, [.sl 3 0])]) [⟨.row ⟨.byte, a⟩, 0, 1⟩, ⟨.row ⟨.word, r.1.words⟩, 0, 2⟩, ⟨.row ⟨.bool, r.1.gone⟩, 0, 2⟩, ⟨.row ⟨.word, r.2⟩, 0, 2⟩]⟩
theorem spec_DrawClosure_ok : CalleeOk Try.prog rowU 17 spec_DrawClosure_C := by
  refine calleeP (nl := false) (m0 := 1) (T := [(108, spec_l1New_C), (110, spec_l1Below_C), (111, spec_l3Draw_C), (109, spec_l8Draw_C)]) (H := [(0, spec_DrawClosure_L0_H)]) (TabOk.cons spec_l1New_ok (TabOk.cons spec_l1Below_ok (TabOk.cons spec_l3Draw_ok (TabOk.cons spec_l8Draw_ok TabOk.nil)))) (by kernel_rfl) (by kernel_rfl) (fun p hp hb => by
    simp only [List.mem_cons, List.not_mem_nil, or_false] at hp
    subst hp
    exact spec_DrawClosure_L0_ok hb) fun ρ vs W K r h => ?_
  obtain ⟨a, ha, h1⟩ := Option.bind_eq_some_iff.1 h
  clear h
  obtain ⟨rfl, rfl⟩ := spec_DrawClosure_D_ok ha
  obtain ⟨q, hq, h2⟩ := Option.bind_eq_some_iff.1 h1
  exact ⟨_, _, h2, (spec_DrawClosure_nf a _ _).trans ((spec_DrawClosure_bind a _).trans (by rw [hq]; rfl))⟩
/-! loop.example/g00249/impl.in -/
def impl_in_K (x0 : Int) (x1 : Int) (x2 : Int) {ρ : Type} (K : Bool → Option ρ) : Option ρ :=
  cond ((decide (x0 ≥ x1)) == true)
    (K (decide (x0 ≤ x2)))
    (K false)
def impl_in (x0 : Int) (x1 : Int) (x2 : Int) : Option (Bool) := impl_in_K x0 x1 x2 some
theorem impl_in_bind (x0 : Int) (x1 : Int) (x2 : Int) {ρ : Type} (K : Bool → Option ρ) : impl_in_K x0 x1 x2 K = (impl_in x0 x1 x2).bind K := by
  simp only [impl_in, impl_in_K, Option.bind_assoc, Option.bind_some, Option.bind_none, cond_bind, sumK_bind]
noncomputable def impl_in_E : Env Row := envN false 125 0 [] []
theorem impl_in_nf (x0 : Int) (x1 : Int) (x2 : Int) (ρ : Type) (K : V → Heap Row → Option ρ) : evBody rowU impl_in_E (bodyC 125) [.c (.int .i64 x0), .c (.int .i64 x1), .c (.int .i64 x2)] [] K = impl_in_K x0 x1 x2 (fun r => K (.c (.bool r)) []) := by kernel_rfl
def impl_in_D : List V → Heap Row → Option (Int × Int × Int)
  | [.c (.int .i64 v1), .c (.int .i64 v2), .c (.int .i64 v3)], [] => some (v1, v2, v3)
  | _, _ => none
theorem impl_in_D_ok {vs : List V} {W : Heap Row} {a : Int × Int × Int} (h : impl_in_D vs W = some a) : vs = [.c (.int .i64 (a.1)), .c (.int .i64 (a.2.1)), .c (.int .i64 (a.2.2))] ∧ W = [] := by
  unfold impl_in_D at h
  split at h
  · simp at h; subst h; exact ⟨rfl, rfl⟩
  · simp at h
def impl_in_C : Callee Row := ⟨[], fun _ vs W K => (impl_in_D vs W).bind fun a => (impl_in a.1 a.2.1 a.2.2).bind fun r => K (.c (.bool r)) []⟩
theorem impl_in_ok : CalleeOk Try.prog rowU 125 impl_in_C := by
  refine calleeP (nl := false) (m0 := 0) (T := []) (H := []) TabOk.nil (by kernel_rfl) (by kernel_rfl) (fun p hp => nomatch hp) fun ρ vs W K r h => ?_
  obtain ⟨a, ha, h1⟩ := Option.bind_eq_some_iff.1 h
  clear h
  obtain ⟨rfl, rfl⟩ := impl_in_D_ok ha
  obtain ⟨q, hq, h2⟩ := Option.bind_eq_some_iff.1 h1
  exact ⟨_, _, h2, (impl_in_nf (a.1) (a.2.1) (a.2.2) _ _).trans ((impl_in_bind (a.1) (a.2.1) (a.2.2) _).trans (by rw [hq]; rfl))⟩
/-! loop.example/g00249/impl.BoundsOk -/
def impl_BoundsOk_K (x0 : Int) (x1 : Int) {ρ : Type} (K : Bool → Option ρ) : Option ρ :=
  Option.bind (impl_in x0 0 x1) fun r1 =>
  cond (r1 == true)
    (K (decide (x1 ≤ 4096)))
    (K false)
def impl_BoundsOk (x0 : Int) (x1 : Int) : Option (Bool) := impl_BoundsOk_K x0 x1 some
theorem impl_BoundsOk_bind (x0 : Int) (x1 : Int) {ρ : Type} (K : Bool → Option ρ) : impl_BoundsOk_K x0 x1 K = (impl_BoundsOk x0 x1).bind K := by
  simp only [impl_BoundsOk, impl_BoundsOk_K, Option.bind_assoc, Option.bind_some, Option.bind_none, cond_bind, sumK_bind]
noncomputable def impl_BoundsOk_E : Env Row := envN false 250 0 [(125, impl_in_C)] []
theorem impl_BoundsOk_nf (x0 : Int) (x1 : Int) (ρ : Type) (K : V → Heap Row → Option ρ) : evBody rowU impl_BoundsOk_E (bodyC 250) [.c (.int .i64 x0), .c (.int .i64 x1)] [] K = impl_BoundsOk_K x0 x1 (fun r => K (.c (.bool r)) []) := by kernel_rfl
def impl_BoundsOk_D : List V → Heap Row → Option (Int × Int)
  | [.c (.int .i64 v1), .c (.int .i64 v2)], [] => some (v1, v2)
  | _, _ => none
theorem impl_BoundsOk_D_ok {vs : List V} {W : Heap Row} {a : Int × Int} (h : impl_BoundsOk_D vs W = some a) : vs = [.c (.int .i64 (a.1)), .c (.int .i64 (a.2))] ∧ W = [] := by
  unfold impl_BoundsOk_D at h
  split at h
  · simp at h; subst h; exact ⟨rfl, rfl⟩
  · simp at h
def impl_BoundsOk_C : Callee Row := ⟨[], fun _ vs W K => (impl_BoundsOk_D vs W).bind fun a => (impl_BoundsOk a.1 a.2).bind fun r => K (.c (.bool r)) []⟩
theorem impl_BoundsOk_ok : CalleeOk Try.prog rowU 250 impl_BoundsOk_C := by
  refine calleeP (nl := false) (m0 := 0) (T := [(125, impl_in_C)]) (H := []) (TabOk.cons impl_in_ok TabOk.nil) (by kernel_rfl) (by kernel_rfl) (fun p hp => nomatch hp) fun ρ vs W K r h => ?_
  obtain ⟨a, ha, h1⟩ := Option.bind_eq_some_iff.1 h
  clear h
  obtain ⟨rfl, rfl⟩ := impl_BoundsOk_D_ok ha
  obtain ⟨q, hq, h2⟩ := Option.bind_eq_some_iff.1 h1
  exact ⟨_, _, h2, (impl_BoundsOk_nf (a.1) (a.2) _ _).trans ((impl_BoundsOk_bind (a.1) (a.2) _).trans (by rw [hq]; rfl))⟩
/-! loop.example/g00249/impl.Pack -/
noncomputable def impl_Pack_L0_K (n3 : Int) (n4 : Int) (n5 : Int) {ρ : Type} (A : Int → Option ρ) (X : Unit → Option ρ) (R : Int × Int × Int → Option ρ) : Option ρ :=
  cond (decide (n5 < 7))
    (cond (decide (0 ≤ n5)) (cond ((w64 (1 * (pw2 64 n5))) != 0) (cond ((w64 (1 * (pw2 64 n5))) != 0) (cond ((decide ((w64 (Int.tdiv n3 (w64 (1 * (pw2 64 n5))))) ≤ 63)) == true)
      (cond (decide ((w64 (Int.tdiv (w64 ((w64 ((w64 (n4 - (w64 ((w64 (Int.tdiv n3 (w64 (1 * (pw2 64 n5))))) * (w64 (1 * (pw2 64 n5))))))) + (w64 (1 * (pw2 64 n5))))) - 1)) (w64 (1 * (pw2 64 n5))))) ≤ 63))
        (R (n5, w64 (Int.tdiv n3 (w64 (1 * (pw2 64 n5)))), w64 (Int.tdiv (w64 ((w64 ((w64 (n4 - (w64 ((w64 (Int.tdiv n3 (w64 (1 * (pw2 64 n5))))) * (w64 (1 * (pw2 64 n5))))))) + (w64 (1 * (pw2 64 n5))))) - 1)) (w64 (1 * (pw2 64 n5))))))
        (A (w64 (n5 + 1))))
      (A (w64 (n5 + 1)))) none) none) none)
    (X ())
noncomputable def impl_Pack_L0_step (n3 : Int) (n4 : Int) (s : Int) : Option (Rnd (Int) (Unit) (Int × Int × Int)) := impl_Pack_L0_K n3 n4 s (fun s => some (.again s)) (fun t => some (.exit t)) (fun k => some (.ret k))
theorem impl_Pack_L0_bind (n3 : Int) (n4 : Int) (s : Int) {ρ : Type} (A : Int → Option ρ) (X : Unit → Option ρ) (R : Int × Int × Int → Option ρ) : impl_Pack_L0_K n3 n4 s A X R = (impl_Pack_L0_step n3 n4 s).bind (rndE A X R) := by
  simp only [impl_Pack_L0_step, impl_Pack_L0_K, Option.bind_assoc, Option.bind_some, Option.bind_none, cond_bind, sumK_bind, rndE_again, rndE_exit, rndE_ret]
def impl_Pack_L0_st (p : Int × Int) (s : Int) : List V × Heap Row := ([.c (.int .i64 (p.1)), .c (.int .i64 (p.2)), .c (.ptr 0 0), .c (.int .i64 (s))], [⟨.box [.int .i64 0, .int .i64 0, .int .i64 0], 0, 2⟩])
def impl_Pack_L0_so (p : Int × Int) (t : Unit) : List V × Heap Row := ([.c (.ptr 0 0)], [⟨.box [.int .i64 0, .int .i64 0, .int .i64 0], 0, 2⟩])
def impl_Pack_L0_sr (p : Int × Int) (k : Int × Int × Int) : List V × Heap Row := ([.c (.ptr 0 0), .c (.bool true)], [⟨.box [.int .i64 (k).1, .int .i64 (k).2.1, .int .i64 (k).2.2], 0, 2⟩])
def impl_Pack_L0_D : List V → Heap Row → Option ((Int × Int) × (Int))
  | [.c (.int .i64 v1), .c (.int .i64 v2), .c (.ptr 0 0), .c (.int .i64 v3)], [⟨.box [.int .i64 0, .int .i64 0, .int .i64 0], 0, 2⟩] => some ((v1, v2), (v3))
  | _, _ => none
theorem impl_Pack_L0_D_ok (vs : List V) (L : Heap Row) (p : Int × Int) (s : Int) (h : impl_Pack_L0_D vs L = some (p, s)) : impl_Pack_L0_st p s = (vs, L) := by
  unfold impl_Pack_L0_D at h
  split at h
  · simp at h; obtain ⟨rfl, rfl⟩ := h; rfl
  · simp at h
noncomputable def impl_Pack_L0_H : LoopH Row := loopR [0, 1, 4, 15] [4] impl_Pack_L0_D (fun p => impl_Pack_L0_step (p.1) (p.2)) impl_Pack_L0_so impl_Pack_L0_sr
theorem impl_Pack_L0_nf (p : Int × Int) (s : Int) (ρ : Type) (again Kx Kr : List V → Heap Row → Option ρ) : evRound rowU (envOf 289 0 [(250, impl_BoundsOk_C)] [(0, impl_Pack_L0_H)]) 0 impl_Pack_L0_H (loopC 289 0) again (impl_Pack_L0_st p s).1 (impl_Pack_L0_st p s).2 Kx Kr = impl_Pack_L0_K (p.1) (p.2) s (fun s => again (impl_Pack_L0_st p s).1 (impl_Pack_L0_st p s).2) (fun t => Kx (impl_Pack_L0_so p t).1 (impl_Pack_L0_so p t).2) (fun k => Kr (impl_Pack_L0_sr p k).1 (impl_Pack_L0_sr p k).2) := by kernel_rfl
theorem impl_Pack_L0_ok (hb : LoopsOk Try.prog rowU (envOf 289 0 [(250, impl_BoundsOk_C)] [(0, impl_Pack_L0_H)]) (loopAt (codeP 289) 0)) : LoopOk Try.prog rowU (envOf 289 0 [(250, impl_BoundsOk_C)] [(0, impl_Pack_L0_H)]) 0 (loopAt (codeP 289) 0) impl_Pack_L0_H :=
  loopR_ok tagOk mixed envNl (envT (TabOk.cons impl_BoundsOk_ok TabOk.nil)) hb impl_Pack_L0_st impl_Pack_L0_D_ok fun p s ρ A Kx Kr => (impl_Pack_L0_nf p s ρ A Kx Kr).trans (impl_Pack_L0_bind (p.1) (p.2) s _ _ _)
noncomputable def impl_Pack_K (x0 : Int) (x1 : Int) {ρ : Type} (K : GPacked × Bool → Option ρ) : Option ρ :=
  Option.bind (impl_BoundsOk x0 x1) fun r1 =>
  cond (!r1)
    (K ((⟨0, 0, 0⟩ : GPacked), false))
    (Option.bind (runL (impl_Pack_L0_step x0 x1) 0) fun ot2 => sumK ot2
      (fun t2 => K ((⟨0, 0, 0⟩ : GPacked), false))
      (fun k3 => K ((⟨k3.1, k3.2.1, k3.2.2⟩ : GPacked), true)))
noncomputable def impl_Pack (x0 : Int) (x1 : Int) : Option (GPacked × Bool) := impl_Pack_K x0 x1 some
theorem impl_Pack_bind (x0 : Int) (x1 : Int) {ρ : Type} (K : GPacked × Bool → Option ρ) : impl_Pack_K x0 x1 K = (impl_Pack x0 x1).bind K := by
  simp only [impl_Pack, impl_Pack_K, Option.bind_assoc, Option.bind_some, Option.bind_none, cond_bind, sumK_bind]
noncomputable def impl_Pack_E : Env Row := envN false 289 0 [(250, impl_BoundsOk_C)] [(0, impl_Pack_L0_H)]
theorem impl_Pack_nf (x0 : Int) (x1 : Int) (ρ : Type) (K : V → Heap Row → Option ρ) : evBody rowU impl_Pack_E (bodyC 289) [.c (.int .i64 x0), .c (.int .i64 x1)] [] K = impl_Pack_K x0 x1 (fun r => K (.t [(true, [.int .i64 r.1.e, .int .i64 r.1.b, .int .i64 r.1.l]), (false, [.bool r.2])]) []) := by kernel_rfl
def impl_Pack_D : List V → Heap Row → Option (Int × Int)
  | [.c (.int .i64 v1), .c (.int .i64 v2)], [] => some (v1, v2)
  | _, _ => none
theorem impl_Pack_D_ok {vs : List V} {W : Heap Row} {a : Int × Int} (h : impl_Pack_D vs W = some a) : vs = [.c (.int .i64 (a.1)), .c (.int .i64 (a.2))] ∧ W = [] := by
  unfold impl_Pack_D at h
  split at h
  · simp at h; subst h; exact ⟨rfl, rfl⟩
  · simp at h
noncomputable def impl_Pack_C : Callee Row := ⟨[], fun _ vs W K => (impl_Pack_D vs W).bind fun a => (impl_Pack a.1 a.2).bind fun r => K (.t [(true, [.int .i64 r.1.e, .int .i64 r.1.b, .int .i64 r.1.l]), (false, [.bool r.2])]) []⟩
theorem impl_Pack_ok : CalleeOk Try.prog rowU 289 impl_Pack_C := by
  refine calleeP (nl := false) (m0 := 0) (T := [(250, impl_BoundsOk_C)]) (H := [(0, impl_Pack_L0_H)]) (TabOk.cons impl_BoundsOk_ok TabOk.nil) (by kernel_rfl) (by kernel_rfl) (fun p hp hb => by
    simp only [List.mem_cons, List.not_mem_nil, or_false] at hp
    subst hp
    exact impl_Pack_L0_ok hb) fun ρ vs W K r h => ?_
  obtain ⟨a, ha, h1⟩ := Option.bind_eq_some_iff.1 h
  clear h
  obtain ⟨rfl, rfl⟩ := impl_Pack_D_ok ha
  obtain ⟨q, hq, h2⟩ := Option.bind_eq_some_iff.1 h1
  exact ⟨_, _, h2, (impl_Pack_nf (a.1) (a.2) _ _).trans ((impl_Pack_bind (a.1) (a.2) _).trans (by rw [hq]; rfl))⟩
/-! loop.example/g00249/impl.Unpack -/
def impl_Unpack_K (x0 : GPacked) {ρ : Type} (K : Int × Int × Bool → Option ρ) : Option ρ :=
  Option.bind (impl_in x0.e 0 6) fun r1 =>
  cond ((!r1) == false)
    (Option.bind (impl_in x0.b 0 63) fun r2 =>
    cond ((!r2) == false)
      (Option.bind (impl_in x0.l 0 63) fun r3 =>
      cond (!r3)
        (K (0, 0, false))
        (cond (decide (0 ≤ x0.e)) (cond (decide (0 ≤ x0.e)) (K (w64 (x0.b * (pw2 64 x0.e)), mn 4096 (w64 ((w64 (x0.b + x0.l)) * (pw2 64 x0.e))), true)) none) none))
      (K (0, 0, false)))
    (K (0, 0, false))
def impl_Unpack (x0 : GPacked) : Option (Int × Int × Bool) := impl_Unpack_K x0 some
theorem impl_Unpack_bind (x0 : GPacked) {ρ : Type} (K : Int × Int × Bool → Option ρ) : impl_Unpack_K x0 K = (impl_Unpack x0).bind K := by
  simp only [impl_Unpack, impl_Unpack_K, Option.bind_assoc, Option.bind_some, Option.bind_none, cond_bind, sumK_bind]
noncomputable def impl_Unpack_E : Env Row := envN false 290 0 [(125, impl_in_C)] []
theorem impl_Unpack_nf (x0 : GPacked) (ρ : Type) (K : V → Heap Row → Option ρ) : evBody rowU impl_Unpack_E (bodyC 290) [.a [.int .i64 x0.e, .int .i64 x0.b, .int .i64 x0.l]] [] K = impl_Unpack_K x0 (fun r => K (.t [(false, [.int .i64 r.1]), (false, [.int .i64 r.2.1]), (false, [.bool r.2.2])]) []) := by kernel_rfl
def impl_Unpack_D : List V → Heap Row → Option (GPacked)
  | [.a (.int .i64 v1 :: .int .i64 v2 :: .int .i64 v3 :: [])], [] => some (⟨v1, v2, v3⟩)
  | _, _ => none
theorem impl_Unpack_D_ok {vs : List V} {W : Heap Row} {a : GPacked} (h : impl_Unpack_D vs W = some a) : vs = [.a [.int .i64 (a).e, .int .i64 (a).b, .int .i64 (a).l]] ∧ W = [] := by
  unfold impl_Unpack_D at h
  split at h
  · simp at h; subst h; exact ⟨rfl, rfl⟩
  · simp at h
def impl_Unpack_C : Callee Row := ⟨[], fun _ vs W K => (impl_Unpack_D vs W).bind fun a => (impl_Unpack a).bind fun r => K (.t [(false, [.int .i64 r.1]), (false, [.int .i64 r.2.1]), (false, [.bool r.2.2])]) []⟩
theorem impl_Unpack_ok : CalleeOk Try.prog rowU 290 impl_Unpack_C := by
  refine calleeP (nl := false) (m0 := 0) (T := [(125, impl_in_C)]) (H := []) (TabOk.cons impl_in_ok TabOk.nil) (by kernel_rfl) (by kernel_rfl) (fun p hp => nomatch hp) fun ρ vs W K r h => ?_
  obtain ⟨a, ha, h1⟩ := Option.bind_eq_some_iff.1 h
  clear h
  obtain ⟨rfl, rfl⟩ := impl_Unpack_D_ok ha
  obtain ⟨q, hq, h2⟩ := Option.bind_eq_some_iff.1 h1
  exact ⟨_, _, h2, (impl_Unpack_nf a _ _).trans ((impl_Unpack_bind a _).trans (by rw [hq]; rfl))⟩
/-! loop.example/g00249/impl.Wide -/
noncomputable def impl_Wide_K (x0 : Int) (x1 : Int) {ρ : Type} (K : Int × Int → Option ρ) : Option ρ :=
  Option.bind (impl_BoundsOk x0 x1) fun r1 =>
  cond (!r1)
    (K (0, 0))
    (Option.bind (impl_Pack x0 x1) fun r2 =>
    cond (!r2.2)
      (K (0, 4096))
      (Option.bind (impl_Unpack r2.1) fun r3 =>
      K (r3.1, r3.2.1)))
noncomputable def impl_Wide (x0 : Int) (x1 : Int) : Option (Int × Int) := impl_Wide_K x0 x1 some
theorem impl_Wide_bind (x0 : Int) (x1 : Int) {ρ : Type} (K : Int × Int → Option ρ) : impl_Wide_K x0 x1 K = (impl_Wide x0 x1).bind K := by
  simp only [impl_Wide, impl_Wide_K, Option.bind_assoc, Option.bind_some, Option.bind_none, cond_bind, sumK_bind]
noncomputable def impl_Wide_E : Env Row := envN false 249 0 [(250, impl_BoundsOk_C), (289, impl_Pack_C), (290, impl_Unpack_C)] []
theorem impl_Wide_nf (x0 : Int) (x1 : Int) (ρ : Type) (K : V → Heap Row → Option ρ) : evBody rowU impl_Wide_E (bodyC 249) [.c (.int .i64 x0), .c (.int .i64 x1)] [] K = impl_Wide_K x0 x1 (fun r => K (.t [(false, [.int .i64 r.1]), (false, [.int .i64 r.2])]) []) := by kernel_rfl
def impl_Wide_D : List V → Heap Row → Option (Int × Int)
  | [.c (.int .i64 v1), .c (.int .i64 v2)], [] => some (v1, v2)
  | _, _ => none
theorem impl_Wide_D_ok {vs : List V} {W : Heap Row} {a : Int × Int} (h : impl_Wide_D vs W = some a) : vs = [.c (.int .i64 (a.1)), .c (.int .i64 (a.2))] ∧ W = [] := by
  unfold impl_Wide_D at h
  split at h
  · simp at h; subst h; exact ⟨rfl, rfl⟩
  · simp at h
noncomputable def impl_Wide_C : Callee Row := ⟨[], fun _ vs W K => (impl_Wide_D vs W).bind fun a => (impl_Wide a.1 a.2).bind fun r => K (.t [(false, [.int .i64 r.1]), (false, [.int .i64 r.2])]) []⟩
theorem impl_Wide_ok : CalleeOk Try.prog rowU 249 impl_Wide_C := by
  refine calleeP (nl := false) (m0 := 0) (T := [(250, impl_BoundsOk_C), (289, impl_Pack_C), (290, impl_Unpack_C)]) (H := []) (TabOk.cons impl_BoundsOk_ok (TabOk.cons impl_Pack_ok (TabOk.cons impl_Unpack_ok TabOk.nil))) (by kernel_rfl) (by kernel_rfl) (fun p hp => nomatch hp) fun ρ vs W K r h => ?_
  obtain ⟨a, ha, h1⟩ := Option.bind_eq_some_iff.1 h
  clear h
  obtain ⟨rfl, rfl⟩ := impl_Wide_D_ok ha
  obtain ⟨q, hq, h2⟩ := Option.bind_eq_some_iff.1 h1
  exact ⟨_, _, h2, (impl_Wide_nf (a.1) (a.2) _ _).trans ((impl_Wide_bind (a.1) (a.2) _).trans (by rw [hq]; rfl))⟩
/-! loop.example/g00249/impl.Exact -/
noncomputable def impl_Exact_K (x0 : Int) (x1 : Int) {ρ : Type} (K : Bool → Option ρ) : Option ρ :=
  Option.bind (impl_Wide x0 x1) fun r1 =>
  Option.bind (impl_BoundsOk x0 x1) fun r2 =>
  cond (r2 == true)
    (cond ((r1.1 == x0) == true)
      (K (r1.2 == x1))
      (K false))
    (K false)
noncomputable def impl_Exact (x0 : Int) (x1 : Int) : Option (Bool) := impl_Exact_K x0 x1 some
theorem impl_Exact_bind (x0 : Int) (x1 : Int) {ρ : Type} (K : Bool → Option ρ) : impl_Exact_K x0 x1 K = (impl_Exact x0 x1).bind K := by
  simp only [impl_Exact, impl_Exact_K, Option.bind_assoc, Option.bind_some, Option.bind_none, cond_bind, sumK_bind]
noncomputable def impl_Exact_E : Env Row := envN false 198 0 [(250, impl_BoundsOk_C), (249, impl_Wide_C)] []
theorem impl_Exact_nf (x0 : Int) (x1 : Int) (ρ : Type) (K : V → Heap Row → Option ρ) : evBody rowU impl_Exact_E (bodyC 198) [.c (.int .i64 x0), .c (.int .i64 x1)] [] K = impl_Exact_K x0 x1 (fun r => K (.c (.bool r)) []) := by kernel_rfl
def impl_Exact_D : List V → Heap Row → Option (Int × Int)
  | [.c (.int .i64 v1), .c (.int .i64 v2)], [] => some (v1, v2)
  | _, _ => none
theorem impl_Exact_D_ok {vs : List V} {W : Heap Row} {a : Int × Int} (h : impl_Exact_D vs W = some a) : vs = [.c (.int .i64 (a.1)), .c (.int .i64 (a.2))] ∧ W = [] := by
  unfold impl_Exact_D at h
  split at h
  · simp at h; subst h; exact ⟨rfl, rfl⟩
  · simp at h
noncomputable def impl_Exact_C : Callee Row := ⟨[], fun _ vs W K => (impl_Exact_D vs W).bind fun a => (impl_Exact a.1 a.2).bind fun r => K (.c (.bool r)) []⟩
theorem impl_Exact_ok : CalleeOk Try.prog rowU 198 impl_Exact_C := by
  refine calleeP (nl := false) (m0 := 0) (T := [(250, impl_BoundsOk_C), (249, impl_Wide_C)]) (H := []) (TabOk.cons impl_BoundsOk_ok (TabOk.cons impl_Wide_ok TabOk.nil)) (by kernel_rfl) (by kernel_rfl) (fun p hp => nomatch hp) fun ρ vs W K r h => ?_
  obtain ⟨a, ha, h1⟩ := Option.bind_eq_some_iff.1 h
  clear h
  obtain ⟨rfl, rfl⟩ := impl_Exact_D_ok ha
  obtain ⟨q, hq, h2⟩ := Option.bind_eq_some_iff.1 h1
  exact ⟨_, _, h2, (impl_Exact_nf (a.1) (a.2) _ _).trans ((impl_Exact_bind (a.1) (a.2) _).trans (by rw [hq]; rfl))⟩
end Go.Eng
