/- Functions of the program, as the evaluator tells them: printed by a program of ours. -/
import Derived.Test.YtkgeojjgcffebaaReachedFS
import Derived.Test.YtkgeojjgcffebaaReachedF0
set_option linter.unusedVariables false
set_option linter.unusedSimpArgs false
set_option maxRecDepth 20000
namespace Go.Eng
open Go.Proofs
/-! loop.example/g00249/impl.KeyOk -/
noncomputable def impl_KeyOk_K (x0 : GKey) {ρ : Type} (K : Bool → Option ρ) : Option ρ :=
  Option.bind (impl_Exact x0.base x0.top) fun r1 =>
  cond (r1 == true)
    (Option.bind (impl_in x0.perms 0 63) fun r2 =>
    cond (r2 == true)
      (Option.bind (impl_in x0.seal_ 0 7) fun r3 =>
      K r3)
      (K false))
    (K false)
noncomputable def impl_KeyOk (x0 : GKey) : Option (Bool) := impl_KeyOk_K x0 some
theorem impl_KeyOk_bind (x0 : GKey) {ρ : Type} (K : Bool → Option ρ) : impl_KeyOk_K x0 K = (impl_KeyOk x0).bind K := by
  simp only [impl_KeyOk, impl_KeyOk_K, Option.bind_assoc, Option.bind_some, Option.bind_none, cond_bind, sumK_bind]
noncomputable def impl_KeyOk_E : Env Row := envN false 126 0 [(125, impl_in_C), (198, impl_Exact_C)] []
theorem impl_KeyOk_nf (x0 : GKey) (ρ : Type) (K : V → Heap Row → Option ρ) : evBody rowU impl_KeyOk_E (bodyC 126) [.a [.int .i64 x0.base, .int .i64 x0.top, .int .i64 x0.perms, .int .i64 x0.seal_]] [] K = impl_KeyOk_K x0 (fun r => K (.c (.bool r)) []) := by kernel_rfl
def impl_KeyOk_D : List V → Heap Row → Option (GKey)
  | [.a (.int .i64 v1 :: .int .i64 v2 :: .int .i64 v3 :: .int .i64 v4 :: [])], [] => some (⟨v1, v2, v3, v4⟩)
  | _, _ => none
theorem impl_KeyOk_D_ok {vs : List V} {W : Heap Row} {a : GKey} (h : impl_KeyOk_D vs W = some a) : vs = [.a [.int .i64 (a).base, .int .i64 (a).top, .int .i64 (a).perms, .int .i64 (a).seal_]] ∧ W = [] := by
  unfold impl_KeyOk_D at h
  split at h
  · simp at h; subst h; exact ⟨rfl, rfl⟩
  · simp at h
noncomputable def impl_KeyOk_C : Callee Row := ⟨[], fun _ vs W K => (impl_KeyOk_D vs W).bind fun a => (impl_KeyOk a).bind fun r => K (.c (.bool r)) []⟩
theorem impl_KeyOk_ok : CalleeOk Try.prog rowU 126 impl_KeyOk_C := by
  refine calleeP (nl := false) (m0 := 0) (T := [(125, impl_in_C), (198, impl_Exact_C)]) (H := []) (TabOk.cons impl_in_ok (TabOk.cons impl_Exact_ok TabOk.nil)) (by kernel_rfl) (by kernel_rfl) (fun p hp => nomatch hp) fun ρ vs W K r h => ?_
  obtain ⟨a, ha, h1⟩ := Option.bind_eq_some_iff.1 h
  clear h
  obtain ⟨rfl, rfl⟩ := impl_KeyOk_D_ok ha
  obtain ⟨q, hq, h2⟩ := Option.bind_eq_some_iff.1 h1
  exact ⟨_, _, h2, (impl_KeyOk_nf a _ _).trans ((impl_KeyOk_bind a _).trans (by rw [hq]; rfl))⟩
/-! loop.example/g00249/impl.WordOk -/
noncomputable def impl_WordOk_K (x0 : GWord) {ρ : Type} (K : Bool → Option ρ) : Option ρ :=
  cond x0.is
    (Option.bind (impl_in x0.n 0 65535) fun r1 =>
    cond (r1 == true)
      (Option.bind (impl_KeyOk x0.key) fun r2 =>
      K r2)
      (K false))
    (Option.bind (impl_in x0.n 0 65535) fun r3 =>
    cond (r3 == true)
      (K ((x0.key.base == 0) && ((x0.key.top == 0) && ((x0.key.perms == 0) && ((x0.key.seal_ == 0) && true)))))
      (K false))
noncomputable def impl_WordOk (x0 : GWord) : Option (Bool) := impl_WordOk_K x0 some
theorem impl_WordOk_bind (x0 : GWord) {ρ : Type} (K : Bool → Option ρ) : impl_WordOk_K x0 K = (impl_WordOk x0).bind K := by
  simp only [impl_WordOk, impl_WordOk_K, Option.bind_assoc, Option.bind_some, Option.bind_none, cond_bind, sumK_bind]
noncomputable def impl_WordOk_E : Env Row := envN false 32 0 [(125, impl_in_C), (126, impl_KeyOk_C)] []
theorem impl_WordOk_nf (x0 : GWord) (ρ : Type) (K : V → Heap Row → Option ρ) : evBody rowU impl_WordOk_E (bodyC 32) [.a [.int .i64 x0.n, .bool x0.is, .int .i64 x0.key.base, .int .i64 x0.key.top, .int .i64 x0.key.perms, .int .i64 x0.key.seal_]] [] K = impl_WordOk_K x0 (fun r => K (.c (.bool r)) []) := by kernel_rfl
def impl_WordOk_D : List V → Heap Row → Option (GWord)
  | [.a (.int .i64 v1 :: .bool v2 :: .int .i64 v3 :: .int .i64 v4 :: .int .i64 v5 :: .int .i64 v6 :: [])], [] => some (⟨v1, v2, ⟨v3, v4, v5, v6⟩⟩)
  | _, _ => none
theorem impl_WordOk_D_ok {vs : List V} {W : Heap Row} {a : GWord} (h : impl_WordOk_D vs W = some a) : vs = [.a [.int .i64 (a).n, .bool (a).is, .int .i64 (a).key.base, .int .i64 (a).key.top, .int .i64 (a).key.perms, .int .i64 (a).key.seal_]] ∧ W = [] := by
  unfold impl_WordOk_D at h
  split at h
  · simp at h; subst h; exact ⟨rfl, rfl⟩
  · simp at h
noncomputable def impl_WordOk_C : Callee Row := ⟨[], fun _ vs W K => (impl_WordOk_D vs W).bind fun a => (impl_WordOk a).bind fun r => K (.c (.bool r)) []⟩
theorem impl_WordOk_ok : CalleeOk Try.prog rowU 32 impl_WordOk_C := by
  refine calleeP (nl := false) (m0 := 0) (T := [(125, impl_in_C), (126, impl_KeyOk_C)]) (H := []) (TabOk.cons impl_in_ok (TabOk.cons impl_KeyOk_ok TabOk.nil)) (by kernel_rfl) (by kernel_rfl) (fun p hp => nomatch hp) fun ρ vs W K r h => ?_
  obtain ⟨a, ha, h1⟩ := Option.bind_eq_some_iff.1 h
  clear h
  obtain ⟨rfl, rfl⟩ := impl_WordOk_D_ok ha
  obtain ⟨q, hq, h2⟩ := Option.bind_eq_some_iff.1 h1
  exact ⟨_, _, h2, (impl_WordOk_nf a _ _).trans ((impl_WordOk_bind a _).trans (by rw [hq]; rfl))⟩
/-! loop.example/g00249/impl.MemoryOk$1 -/
noncomputable def impl_MemoryOk_1_K (x0 : GWord) {ρ : Type} (K : Bool → Option ρ) : Option ρ :=
  Option.bind (impl_WordOk x0) fun r1 =>
  K (!r1)
noncomputable def impl_MemoryOk_1 (x0 : GWord) : Option (Bool) := impl_MemoryOk_1_K x0 some
theorem impl_MemoryOk_1_bind (x0 : GWord) {ρ : Type} (K : Bool → Option ρ) : impl_MemoryOk_1_K x0 K = (impl_MemoryOk_1 x0).bind K := by
  simp only [impl_MemoryOk_1, impl_MemoryOk_1_K, Option.bind_assoc, Option.bind_some, Option.bind_none, cond_bind, sumK_bind]
noncomputable def impl_MemoryOk_1_E : Env Row := envN false 124 0 [(32, impl_WordOk_C)] []
theorem impl_MemoryOk_1_nf (x0 : GWord) (ρ : Type) (K : V → Heap Row → Option ρ) : evBody rowU impl_MemoryOk_1_E (bodyC 124) [.a [.int .i64 x0.n, .bool x0.is, .int .i64 x0.key.base, .int .i64 x0.key.top, .int .i64 x0.key.perms, .int .i64 x0.key.seal_]] [] K = impl_MemoryOk_1_K x0 (fun r => K (.c (.bool r)) []) := by kernel_rfl
def impl_MemoryOk_1_D : List V → Heap Row → Option (GWord)
  | [.a (.int .i64 v1 :: .bool v2 :: .int .i64 v3 :: .int .i64 v4 :: .int .i64 v5 :: .int .i64 v6 :: [])], [] => some (⟨v1, v2, ⟨v3, v4, v5, v6⟩⟩)
  | _, _ => none
theorem impl_MemoryOk_1_D_ok {vs : List V} {W : Heap Row} {a : GWord} (h : impl_MemoryOk_1_D vs W = some a) : vs = [.a [.int .i64 (a).n, .bool (a).is, .int .i64 (a).key.base, .int .i64 (a).key.top, .int .i64 (a).key.perms, .int .i64 (a).key.seal_]] ∧ W = [] := by
  unfold impl_MemoryOk_1_D at h
  split at h
  · simp at h; subst h; exact ⟨rfl, rfl⟩
  · simp at h
noncomputable def impl_MemoryOk_1_C : Callee Row := ⟨[], fun _ vs W K => (impl_MemoryOk_1_D vs W).bind fun a => (impl_MemoryOk_1 a).bind fun r => K (.c (.bool r)) []⟩
theorem impl_MemoryOk_1_ok : CalleeOk Try.prog rowU 124 impl_MemoryOk_1_C := by
  refine calleeP (nl := false) (m0 := 0) (T := [(32, impl_WordOk_C)]) (H := []) (TabOk.cons impl_WordOk_ok TabOk.nil) (by kernel_rfl) (by kernel_rfl) (fun p hp => nomatch hp) fun ρ vs W K r h => ?_
  obtain ⟨a, ha, h1⟩ := Option.bind_eq_some_iff.1 h
  clear h
  obtain ⟨rfl, rfl⟩ := impl_MemoryOk_1_D_ok ha
  obtain ⟨q, hq, h2⟩ := Option.bind_eq_some_iff.1 h1
  exact ⟨_, _, h2, (impl_MemoryOk_1_nf a _ _).trans ((impl_MemoryOk_1_bind a _).trans (by rw [hq]; rfl))⟩
/-! slices.IndexFunc[[]loop.example/g00249/impl.Word,loop.example/g00249/impl.Word] -/
noncomputable def slices_IndexFunc_124_L0_K (l0 : List GWord) (n1 : Int) (n2 : Int) {ρ : Type} (A : Int → Option ρ) (X : Unit → Option ρ) (R : Int → Option ρ) : Option ρ :=
  cond (decide (n2 < n1))
    (cond (decide (0 ≤ n2)) (cond (decide (n2 < (((l0.length : Nat) : Int)))) (Option.bind (impl_MemoryOk_1 (List.getD l0 (n2.toNat) (default))) fun r1 =>
    cond r1
      (R n2)
      (A (w64 (n2 + 1)))) none) none)
    (X ())
noncomputable def slices_IndexFunc_124_L0_step (l0 : List GWord) (n1 : Int) (s : Int) : Option (Rnd (Int) (Unit) (Int)) := slices_IndexFunc_124_L0_K l0 n1 s (fun s => some (.again s)) (fun t => some (.exit t)) (fun k => some (.ret k))
theorem slices_IndexFunc_124_L0_bind (l0 : List GWord) (n1 : Int) (s : Int) {ρ : Type} (A : Int → Option ρ) (X : Unit → Option ρ) (R : Int → Option ρ) : slices_IndexFunc_124_L0_K l0 n1 s A X R = (slices_IndexFunc_124_L0_step l0 n1 s).bind (rndE A X R) := by
  simp only [slices_IndexFunc_124_L0_step, slices_IndexFunc_124_L0_K, Option.bind_assoc, Option.bind_some, Option.bind_none, cond_bind, sumK_bind, rndE_again, rndE_exit, rndE_ret]
def slices_IndexFunc_124_L0_st (p : List GWord × Int) (s : Int) : List V × Heap Row := ([.c (.sl 0 0), .c (.fn 124 []), .c (.int .i64 (p.2)), .c (.int .i64 (s))], [⟨.row ⟨.word, p.1⟩, 0, 1⟩])
def slices_IndexFunc_124_L0_so (p : List GWord × Int) (t : Unit) : List V × Heap Row := ([], [⟨.row ⟨.word, p.1⟩, 0, 1⟩])
def slices_IndexFunc_124_L0_sr (p : List GWord × Int) (k : Int) : List V × Heap Row := ([.c (.int .i64 (k))], [⟨.row ⟨.word, p.1⟩, 0, 1⟩])
def slices_IndexFunc_124_L0_D : List V → Heap Row → Option ((List GWord × Int) × (Int))
  | [.c (.sl 0 0), .c (.fn 124 []), .c (.int .i64 v1), .c (.int .i64 v2)], [⟨.row ⟨.word, v3⟩, 0, 1⟩] => some ((v3, v1), (v2))
  | _, _ => none
theorem slices_IndexFunc_124_L0_D_ok (vs : List V) (L : Heap Row) (p : List GWord × Int) (s : Int) (h : slices_IndexFunc_124_L0_D vs L = some (p, s)) : slices_IndexFunc_124_L0_st p s = (vs, L) := by
  unfold slices_IndexFunc_124_L0_D at h
  split at h
  · simp at h; obtain ⟨rfl, rfl⟩ := h; rfl
  · simp at h
noncomputable def slices_IndexFunc_124_L0_H : LoopH Row := loopR [0, 1, 7, 8] [] slices_IndexFunc_124_L0_D (fun p => slices_IndexFunc_124_L0_step (p.1) (p.2)) slices_IndexFunc_124_L0_so slices_IndexFunc_124_L0_sr
theorem slices_IndexFunc_124_L0_nf (p : List GWord × Int) (s : Int) (ρ : Type) (again Kx Kr : List V → Heap Row → Option ρ) : evRound rowU (envOf 196 1 [(124, impl_MemoryOk_1_C)] [(0, slices_IndexFunc_124_L0_H)]) 0 slices_IndexFunc_124_L0_H (loopC 196 0) again (slices_IndexFunc_124_L0_st p s).1 (slices_IndexFunc_124_L0_st p s).2 Kx Kr = slices_IndexFunc_124_L0_K (p.1) (p.2) s (fun s => again (slices_IndexFunc_124_L0_st p s).1 (slices_IndexFunc_124_L0_st p s).2) (fun t => Kx (slices_IndexFunc_124_L0_so p t).1 (slices_IndexFunc_124_L0_so p t).2) (fun k => Kr (slices_IndexFunc_124_L0_sr p k).1 (slices_IndexFunc_124_L0_sr p k).2) := by kernel_rfl
theorem slices_IndexFunc_124_L0_ok (hb : LoopsOk Try.prog rowU (envOf 196 1 [(124, impl_MemoryOk_1_C)] [(0, slices_IndexFunc_124_L0_H)]) (loopAt (codeP 196) 0)) : LoopOk Try.prog rowU (envOf 196 1 [(124, impl_MemoryOk_1_C)] [(0, slices_IndexFunc_124_L0_H)]) 0 (loopAt (codeP 196) 0) slices_IndexFunc_124_L0_H :=
  loopR_ok tagOk mixed envNl (envT (TabOk.cons impl_MemoryOk_1_ok TabOk.nil)) hb slices_IndexFunc_124_L0_st slices_IndexFunc_124_L0_D_ok fun p s ρ A Kx Kr => (slices_IndexFunc_124_L0_nf p s ρ A Kx Kr).trans (slices_IndexFunc_124_L0_bind (p.1) (p.2) s _ _ _)
noncomputable def slices_IndexFunc_124_K (x0 : List GWord) {ρ : Type} (K : Int → Option ρ) : Option ρ :=
  Option.bind (runL (slices_IndexFunc_124_L0_step x0 (((x0.length : Nat) : Int))) 0) fun ot2 => sumK ot2
    (fun t2 => K (-1))
    (fun k3 => K k3)
noncomputable def slices_IndexFunc_124 (x0 : List GWord) : Option (Int) := slices_IndexFunc_124_K x0 some
theorem slices_IndexFunc_124_bind (x0 : List GWord) {ρ : Type} (K : Int → Option ρ) : slices_IndexFunc_124_K x0 K = (slices_IndexFunc_124 x0).bind K := by
  simp only [slices_IndexFunc_124, slices_IndexFunc_124_K, Option.bind_assoc, Option.bind_some, Option.bind_none, cond_bind, sumK_bind]
noncomputable def slices_IndexFunc_124_E : Env Row := envN false 196 1 [(124, impl_MemoryOk_1_C)] [(0, slices_IndexFunc_124_L0_H)]
theorem slices_IndexFunc_124_nf (x0 : List GWord) (ρ : Type) (K : V → Heap Row → Option ρ) : evBody rowU slices_IndexFunc_124_E (bodyC 196) [.c (.sl 0 0), .c (.fn 124 [])] [⟨.row ⟨.word, x0⟩, 0, 1⟩] K = slices_IndexFunc_124_K x0 (fun r => K (.c (.int .i64 r)) [⟨.row ⟨.word, x0⟩, 0, 1⟩]) := by kernel_rfl
def slices_IndexFunc_124_D : List V → Heap Row → Option (List GWord)
  | [.c (.sl 0 0), .c (.fn 124 [])], [⟨.row ⟨.word, v1⟩, 0, 1⟩] => some (v1)
  | _, _ => none
theorem slices_IndexFunc_124_D_ok {vs : List V} {W : Heap Row} {a : List GWord} (h : slices_IndexFunc_124_D vs W = some a) : vs = [.c (.sl 0 0), .c (.fn 124 [])] ∧ W = [⟨.row ⟨.word, a⟩, 0, 1⟩] := by
  unfold slices_IndexFunc_124_D at h
  split at h
  · simp at h; subst h; exact ⟨rfl, rfl⟩
  · simp at h
noncomputable def slices_IndexFunc_124_C : Callee Row := ⟨[(false, 0)], fun _ vs W K => (slices_IndexFunc_124_D vs W).bind fun a => (slices_IndexFunc_124 a).bind fun r => K (.c (.int .i64 r)) [⟨.row ⟨.word, a⟩, 0, 1⟩]⟩
theorem slices_IndexFunc_124_ok : CalleeOk Try.prog rowU 196 slices_IndexFunc_124_C := by
  refine calleeP (nl := false) (m0 := 1) (T := [(124, impl_MemoryOk_1_C)]) (H := [(0, slices_IndexFunc_124_L0_H)]) (TabOk.cons impl_MemoryOk_1_ok TabOk.nil) (by kernel_rfl) (by kernel_rfl) (fun p hp hb => by
    simp only [List.mem_cons, List.not_mem_nil, or_false] at hp
    subst hp
    exact slices_IndexFunc_124_L0_ok hb) fun ρ vs W K r h => ?_
  obtain ⟨a, ha, h1⟩ := Option.bind_eq_some_iff.1 h
  clear h
  obtain ⟨rfl, rfl⟩ := slices_IndexFunc_124_D_ok ha
  obtain ⟨q, hq, h2⟩ := Option.bind_eq_some_iff.1 h1
  exact ⟨_, _, h2, (slices_IndexFunc_124_nf a _ _).trans ((slices_IndexFunc_124_bind a _).trans (by rw [hq]; rfl))⟩
/-! slices.ContainsFunc[[]loop.example/g00249/impl.Word,loop.example/g00249/impl.Word] -/
noncomputable def slices_ContainsFunc_124_K (x0 : List GWord) {ρ : Type} (K : Bool → Option ρ) : Option ρ :=
  Option.bind (slices_IndexFunc_124 x0) fun r1 =>
  K (decide (r1 ≥ 0))
noncomputable def slices_ContainsFunc_124 (x0 : List GWord) : Option (Bool) := slices_ContainsFunc_124_K x0 some
theorem slices_ContainsFunc_124_bind (x0 : List GWord) {ρ : Type} (K : Bool → Option ρ) : slices_ContainsFunc_124_K x0 K = (slices_ContainsFunc_124 x0).bind K := by
  simp only [slices_ContainsFunc_124, slices_ContainsFunc_124_K, Option.bind_assoc, Option.bind_some, Option.bind_none, cond_bind, sumK_bind]
noncomputable def slices_ContainsFunc_124_E : Env Row := envN false 113 1 [(196, slices_IndexFunc_124_C)] []
theorem slices_ContainsFunc_124_nf (x0 : List GWord) (ρ : Type) (K : V → Heap Row → Option ρ) : evBody rowU slices_ContainsFunc_124_E (bodyC 113) [.c (.sl 0 0), .c (.fn 124 [])] [⟨.row ⟨.word, x0⟩, 0, 1⟩] K = slices_ContainsFunc_124_K x0 (fun r => K (.c (.bool r)) [⟨.row ⟨.word, x0⟩, 0, 1⟩]) := by kernel_rfl
def slices_ContainsFunc_124_D : List V → Heap Row → Option (List GWord)
  | [.c (.sl 0 0), .c (.fn 124 [])], [⟨.row ⟨.word, v1⟩, 0, 1⟩] => some (v1)
  | _, _ => none
theorem slices_ContainsFunc_124_D_ok {vs : List V} {W : Heap Row} {a : List GWord} (h : slices_ContainsFunc_124_D vs W = some a) : vs = [.c (.sl 0 0), .c (.fn 124 [])] ∧ W = [⟨.row ⟨.word, a⟩, 0, 1⟩] := by
  unfold slices_ContainsFunc_124_D at h
  split at h
  · simp at h; subst h; exact ⟨rfl, rfl⟩
  · simp at h
noncomputable def slices_ContainsFunc_124_C : Callee Row := ⟨[(false, 0)], fun _ vs W K => (slices_ContainsFunc_124_D vs W).bind fun a => (slices_ContainsFunc_124 a).bind fun r => K (.c (.bool r)) [⟨.row ⟨.word, a⟩, 0, 1⟩]⟩
theorem slices_ContainsFunc_124_ok : CalleeOk Try.prog rowU 113 slices_ContainsFunc_124_C := by
  refine calleeP (nl := false) (m0 := 1) (T := [(196, slices_IndexFunc_124_C)]) (H := []) (TabOk.cons slices_IndexFunc_124_ok TabOk.nil) (by kernel_rfl) (by kernel_rfl) (fun p hp => nomatch hp) fun ρ vs W K r h => ?_
  obtain ⟨a, ha, h1⟩ := Option.bind_eq_some_iff.1 h
  clear h
  obtain ⟨rfl, rfl⟩ := slices_ContainsFunc_124_D_ok ha
  obtain ⟨q, hq, h2⟩ := Option.bind_eq_some_iff.1 h1
  exact ⟨_, _, h2, (slices_ContainsFunc_124_nf a _ _).trans ((slices_ContainsFunc_124_bind a _).trans (by rw [hq]; rfl))⟩
/-! loop.example/g00249/impl.MemoryOk -/
noncomputable def impl_MemoryOk_K (x0 : GMemory) {ρ : Type} (K : Bool → Option ρ) : Option ρ :=
  cond (((((x0.words.length : Nat) : Int)) == 24) == true)
    (cond (((((x0.gone.length : Nat) : Int)) == 24) == true)
      (Option.bind (slices_ContainsFunc_124 x0.words) fun r1 =>
      K (!r1))
      (K false))
    (K false)
noncomputable def impl_MemoryOk (x0 : GMemory) : Option (Bool) := impl_MemoryOk_K x0 some
theorem impl_MemoryOk_bind (x0 : GMemory) {ρ : Type} (K : Bool → Option ρ) : impl_MemoryOk_K x0 K = (impl_MemoryOk x0).bind K := by
  simp only [impl_MemoryOk, impl_MemoryOk_K, Option.bind_assoc, Option.bind_some, Option.bind_none, cond_bind, sumK_bind]
noncomputable def impl_MemoryOk_E : Env Row := envN false 31 2 [(113, slices_ContainsFunc_124_C)] []
theorem impl_MemoryOk_nf (x0 : GMemory) (ρ : Type) (K : V → Heap Row → Option ρ) : evBody rowU impl_MemoryOk_E (bodyC 31) [.a [.sl 0 0, .sl 1 0]] [⟨.row ⟨.word, x0.words⟩, 0, 1⟩, ⟨.row ⟨.bool, x0.gone⟩, 0, 1⟩] K = impl_MemoryOk_K x0 (fun r => K (.c (.bool r)) [⟨.row ⟨.word, x0.words⟩, 0, 1⟩, ⟨.row ⟨.bool, x0.gone⟩, 0, 1⟩]) := by kernel_rfl
def impl_MemoryOk_D : List V → Heap Row → Option (GMemory)
  | [.a (.sl 0 0 :: .sl 1 0 :: [])], [⟨.row ⟨.word, v1⟩, 0, 1⟩, ⟨.row ⟨.bool, v2⟩, 0, 1⟩] => some (⟨v1, v2⟩)
  | _, _ => none
theorem impl_MemoryOk_D_ok {vs : List V} {W : Heap Row} {a : GMemory} (h : impl_MemoryOk_D vs W = some a) : vs = [.a [.sl 0 0, .sl 1 0]] ∧ W = [⟨.row ⟨.word, (a).words⟩, 0, 1⟩, ⟨.row ⟨.bool, (a).gone⟩, 0, 1⟩] := by
  unfold impl_MemoryOk_D at h
  split at h
  · simp at h; subst h; exact ⟨rfl, rfl⟩
  · simp at h
noncomputable def impl_MemoryOk_C : Callee Row := ⟨[(false, 0), (false, 0)], fun _ vs W K => (impl_MemoryOk_D vs W).bind fun a => (impl_MemoryOk a).bind fun r => K (.c (.bool r)) [⟨.row ⟨.word, (a).words⟩, 0, 1⟩, ⟨.row ⟨.bool, (a).gone⟩, 0, 1⟩]⟩
theorem impl_MemoryOk_ok : CalleeOk Try.prog rowU 31 impl_MemoryOk_C := by
  refine calleeP (nl := false) (m0 := 2) (T := [(113, slices_ContainsFunc_124_C)]) (H := []) (TabOk.cons slices_ContainsFunc_124_ok TabOk.nil) (by kernel_rfl) (by kernel_rfl) (fun p hp => nomatch hp) fun ρ vs W K r h => ?_
  obtain ⟨a, ha, h1⟩ := Option.bind_eq_some_iff.1 h
  clear h
  obtain ⟨rfl, rfl⟩ := impl_MemoryOk_D_ok ha
  obtain ⟨q, hq, h2⟩ := Option.bind_eq_some_iff.1 h1
  exact ⟨_, _, h2, (impl_MemoryOk_nf a _ _).trans ((impl_MemoryOk_bind a _).trans (by rw [hq]; rfl))⟩
/-! loop.example/g00249/impl.Closure$1$1 -/
def impl_Closure_1_1_K (x0 : GWord) (f0_0 : Int) (f0_1 : Bool) (f0_2 : Int) (f0_3 : Int) (f0_4 : Int) (f0_5 : Int) {ρ : Type} (K : Bool → Option ρ) : Option ρ :=
  K ((x0.key.base == f0_2) && ((x0.key.top == f0_3) && ((x0.key.perms == f0_4) && ((x0.key.seal_ == f0_5) && true))))
def impl_Closure_1_1 (x0 : GWord) (f0_0 : Int) (f0_1 : Bool) (f0_2 : Int) (f0_3 : Int) (f0_4 : Int) (f0_5 : Int) : Option (Bool) := impl_Closure_1_1_K x0 f0_0 f0_1 f0_2 f0_3 f0_4 f0_5 some
theorem impl_Closure_1_1_bind (x0 : GWord) (f0_0 : Int) (f0_1 : Bool) (f0_2 : Int) (f0_3 : Int) (f0_4 : Int) (f0_5 : Int) {ρ : Type} (K : Bool → Option ρ) : impl_Closure_1_1_K x0 f0_0 f0_1 f0_2 f0_3 f0_4 f0_5 K = (impl_Closure_1_1 x0 f0_0 f0_1 f0_2 f0_3 f0_4 f0_5).bind K := by
  simp only [impl_Closure_1_1, impl_Closure_1_1_K, Option.bind_assoc, Option.bind_some, Option.bind_none, cond_bind, sumK_bind]
noncomputable def impl_Closure_1_1_E : Env Row := envN false 114 1 [] []
theorem impl_Closure_1_1_nf (x0 : GWord) (f0_0 : Int) (f0_1 : Bool) (f0_2 : Int) (f0_3 : Int) (f0_4 : Int) (f0_5 : Int) (ρ : Type) (K : V → Heap Row → Option ρ) : evBody rowU impl_Closure_1_1_E (bodyC 114) [.a [.int .i64 x0.n, .bool x0.is, .int .i64 x0.key.base, .int .i64 x0.key.top, .int .i64 x0.key.perms, .int .i64 x0.key.seal_], .c (.ptr 0 0)] [⟨.box [.int .i64 f0_0, .bool f0_1, .int .i64 f0_2, .int .i64 f0_3, .int .i64 f0_4, .int .i64 f0_5], 0, 1⟩] K = impl_Closure_1_1_K x0 f0_0 f0_1 f0_2 f0_3 f0_4 f0_5 (fun r => K (.c (.bool r)) [⟨.box [.int .i64 f0_0, .bool f0_1, .int .i64 f0_2, .int .i64 f0_3, .int .i64 f0_4, .int .i64 f0_5], 0, 1⟩]) := by kernel_rfl
def impl_Closure_1_1_D : List V → Heap Row → Option (GWord × Int × Bool × Int × Int × Int × Int)
  | [.a (.int .i64 v1 :: .bool v2 :: .int .i64 v3 :: .int .i64 v4 :: .int .i64 v5 :: .int .i64 v6 :: []), .c (.ptr 0 0)], [⟨.box [.int .i64 v7, .bool v8, .int .i64 v9, .int .i64 v10, .int .i64 v11, .int .i64 v12], 0, 1⟩] => some (⟨v1, v2, ⟨v3, v4, v5, v6⟩⟩, v7, v8, v9, v10, v11, v12)
  | _, _ => none
theorem impl_Closure_1_1_D_ok {vs : List V} {W : Heap Row} {a : GWord × Int × Bool × Int × Int × Int × Int} (h : impl_Closure_1_1_D vs W = some a) : vs = [.a [.int .i64 (a.1).n, .bool (a.1).is, .int .i64 (a.1).key.base, .int .i64 (a.1).key.top, .int .i64 (a.1).key.perms, .int .i64 (a.1).key.seal_], .c (.ptr 0 0)] ∧ W = [⟨.box [.int .i64 (a.2.1), .bool (a.2.2.1), .int .i64 (a.2.2.2.1), .int .i64 (a.2.2.2.2.1), .int .i64 (a.2.2.2.2.2.1), .int .i64 (a.2.2.2.2.2.2)], 0, 1⟩] := by
  unfold impl_Closure_1_1_D at h
  split at h
  · simp at h; subst h; exact ⟨rfl, rfl⟩
  · simp at h
def impl_Closure_1_1_C : Callee Row := ⟨[(false, 6)], fun _ vs W K => (impl_Closure_1_1_D vs W).bind fun a => (impl_Closure_1_1 a.1 a.2.1 a.2.2.1 a.2.2.2.1 a.2.2.2.2.1 a.2.2.2.2.2.1 a.2.2.2.2.2.2).bind fun r => K (.c (.bool r)) [⟨.box [.int .i64 (a.2.1), .bool (a.2.2.1), .int .i64 (a.2.2.2.1), .int .i64 (a.2.2.2.2.1), .int .i64 (a.2.2.2.2.2.1), .int .i64 (a.2.2.2.2.2.2)], 0, 1⟩]⟩
theorem impl_Closure_1_1_ok : CalleeOk Try.prog rowU 114 impl_Closure_1_1_C := by
  refine calleeP (nl := false) (m0 := 1) (T := []) (H := []) TabOk.nil (by kernel_rfl) (by kernel_rfl) (fun p hp => nomatch hp) fun ρ vs W K r h => ?_
  obtain ⟨a, ha, h1⟩ := Option.bind_eq_some_iff.1 h
  clear h
  obtain ⟨rfl, rfl⟩ := impl_Closure_1_1_D_ok ha
  obtain ⟨q, hq, h2⟩ := Option.bind_eq_some_iff.1 h1
  exact ⟨_, _, h2, (impl_Closure_1_1_nf (a.1) (a.2.1) (a.2.2.1) (a.2.2.2.1) (a.2.2.2.2.1) (a.2.2.2.2.2.1) (a.2.2.2.2.2.2) _ _).trans ((impl_Closure_1_1_bind (a.1) (a.2.1) (a.2.2.1) (a.2.2.2.1) (a.2.2.2.2.1) (a.2.2.2.2.2.1) (a.2.2.2.2.2.2) _).trans (by rw [hq]; rfl))⟩
/-! slices.IndexFunc[[]loop.example/g00249/impl.Word,loop.example/g00249/impl.Word] -/
noncomputable def slices_IndexFunc_114_L0_K (l0 : List GWord) (n1 : Int) (b2 : Bool) (n3 : Int) (n4 : Int) (n5 : Int) (n6 : Int) (n7 : Int) (n8 : Int) {ρ : Type} (A : Int → Option ρ) (X : Unit → Option ρ) (R : Int → Option ρ) : Option ρ :=
  cond (decide (n8 < n7))
    (cond (decide (0 ≤ n8)) (cond (decide (n8 < (((l0.length : Nat) : Int)))) (Option.bind (impl_Closure_1_1 (List.getD l0 (n8.toNat) (default)) n1 b2 n3 n4 n5 n6) fun r1 =>
    cond r1
      (R n8)
      (A (w64 (n8 + 1)))) none) none)
    (X ())
noncomputable def slices_IndexFunc_114_L0_step (l0 : List GWord) (n1 : Int) (b2 : Bool) (n3 : Int) (n4 : Int) (n5 : Int) (n6 : Int) (n7 : Int) (s : Int) : Option (Rnd (Int) (Unit) (Int)) := slices_IndexFunc_114_L0_K l0 n1 b2 n3 n4 n5 n6 n7 s (fun s => some (.again s)) (fun t => some (.exit t)) (fun k => some (.ret k))
theorem slices_IndexFunc_114_L0_bind (l0 : List GWord) (n1 : Int) (b2 : Bool) (n3 : Int) (n4 : Int) (n5 : Int) (n6 : Int) (n7 : Int) (s : Int) {ρ : Type} (A : Int → Option ρ) (X : Unit → Option ρ) (R : Int → Option ρ) : slices_IndexFunc_114_L0_K l0 n1 b2 n3 n4 n5 n6 n7 s A X R = (slices_IndexFunc_114_L0_step l0 n1 b2 n3 n4 n5 n6 n7 s).bind (rndE A X R) := by
  simp only [slices_IndexFunc_114_L0_step, slices_IndexFunc_114_L0_K, Option.bind_assoc, Option.bind_some, Option.bind_none, cond_bind, sumK_bind, rndE_again, rndE_exit, rndE_ret]
def slices_IndexFunc_114_L0_st (p : List GWord × Int × Bool × Int × Int × Int × Int × Int) (s : Int) : List V × Heap Row := ([.c (.sl 0 0), .c (.fn 114 [1]), .c (.int .i64 (p.2.2.2.2.2.2.2)), .c (.int .i64 (s))], [⟨.row ⟨.word, p.1⟩, 0, 1⟩, ⟨.box [.int .i64 (p.2.1), .bool (p.2.2.1), .int .i64 (p.2.2.2.1), .int .i64 (p.2.2.2.2.1), .int .i64 (p.2.2.2.2.2.1), .int .i64 (p.2.2.2.2.2.2.1)], 0, 1⟩])
def slices_IndexFunc_114_L0_so (p : List GWord × Int × Bool × Int × Int × Int × Int × Int) (t : Unit) : List V × Heap Row := ([], [⟨.row ⟨.word, p.1⟩, 0, 1⟩, ⟨.box [.int .i64 (p.2.1), .bool (p.2.2.1), .int .i64 (p.2.2.2.1), .int .i64 (p.2.2.2.2.1), .int .i64 (p.2.2.2.2.2.1), .int .i64 (p.2.2.2.2.2.2.1)], 0, 1⟩])
def slices_IndexFunc_114_L0_sr (p : List GWord × Int × Bool × Int × Int × Int × Int × Int) (k : Int) : List V × Heap Row := ([.c (.int .i64 (k))], [⟨.row ⟨.word, p.1⟩, 0, 1⟩, ⟨.box [.int .i64 (p.2.1), .bool (p.2.2.1), .int .i64 (p.2.2.2.1), .int .i64 (p.2.2.2.2.1), .int .i64 (p.2.2.2.2.2.1), .int .i64 (p.2.2.2.2.2.2.1)], 0, 1⟩])
def slices_IndexFunc_114_L0_D : List V → Heap Row → Option ((List GWord × Int × Bool × Int × Int × Int × Int × Int) × (Int))
  | [.c (.sl 0 0), .c (.fn 114 [1]), .c (.int .i64 v1), .c (.int .i64 v2)], [⟨.row ⟨.word, v3⟩, 0, 1⟩, ⟨.box [.int .i64 v4, .bool v5, .int .i64 v6, .int .i64 v7, .int .i64 v8, .int .i64 v9], 0, 1⟩] => some ((v3, v4, v5, v6, v7, v8, v9, v1), (v2))
  | _, _ => none
theorem slices_IndexFunc_114_L0_D_ok (vs : List V) (L : Heap Row) (p : List GWord × Int × Bool × Int × Int × Int × Int × Int) (s : Int) (h : slices_IndexFunc_114_L0_D vs L = some (p, s)) : slices_IndexFunc_114_L0_st p s = (vs, L) := by
  unfold slices_IndexFunc_114_L0_D at h
  split at h
  · simp at h; obtain ⟨rfl, rfl⟩ := h; rfl
  · simp at h
noncomputable def slices_IndexFunc_114_L0_H : LoopH Row := loopR [0, 1, 7, 8] [] slices_IndexFunc_114_L0_D (fun p => slices_IndexFunc_114_L0_step (p.1) (p.2.1) (p.2.2.1) (p.2.2.2.1) (p.2.2.2.2.1) (p.2.2.2.2.2.1) (p.2.2.2.2.2.2.1) (p.2.2.2.2.2.2.2)) slices_IndexFunc_114_L0_so slices_IndexFunc_114_L0_sr
theorem slices_IndexFunc_114_L0_nf (p : List GWord × Int × Bool × Int × Int × Int × Int × Int) (s : Int) (ρ : Type) (again Kx Kr : List V → Heap Row → Option ρ) : evRound rowU (envOf 196 2 [(114, impl_Closure_1_1_C)] [(0, slices_IndexFunc_114_L0_H)]) 0 slices_IndexFunc_114_L0_H (loopC 196 0) again (slices_IndexFunc_114_L0_st p s).1 (slices_IndexFunc_114_L0_st p s).2 Kx Kr = slices_IndexFunc_114_L0_K (p.1) (p.2.1) (p.2.2.1) (p.2.2.2.1) (p.2.2.2.2.1) (p.2.2.2.2.2.1) (p.2.2.2.2.2.2.1) (p.2.2.2.2.2.2.2) s (fun s => again (slices_IndexFunc_114_L0_st p s).1 (slices_IndexFunc_114_L0_st p s).2) (fun t => Kx (slices_IndexFunc_114_L0_so p t).1 (slices_IndexFunc_114_L0_so p t).2) (fun k => Kr (slices_IndexFunc_114_L0_sr p k).1 (slices_IndexFunc_114_L0_sr p k).2) := by kernel_rfl
theorem slices_IndexFunc_114_L0_ok (hb : LoopsOk Try.prog rowU (envOf 196 2 [(114, impl_Closure_1_1_C)] [(0, slices_IndexFunc_114_L0_H)]) (loopAt (codeP 196) 0)) : LoopOk Try.prog rowU (envOf 196 2 [(114, impl_Closure_1_1_C)] [(0, slices_IndexFunc_114_L0_H)]) 0 (loopAt (codeP 196) 0) slices_IndexFunc_114_L0_H :=
  loopR_ok tagOk mixed envNl (envT (TabOk.cons impl_Closure_1_1_ok TabOk.nil)) hb slices_IndexFunc_114_L0_st slices_IndexFunc_114_L0_D_ok fun p s ρ A Kx Kr => (slices_IndexFunc_114_L0_nf p s ρ A Kx Kr).trans (slices_IndexFunc_114_L0_bind (p.1) (p.2.1) (p.2.2.1) (p.2.2.2.1) (p.2.2.2.2.1) (p.2.2.2.2.2.1) (p.2.2.2.2.2.2.1) (p.2.2.2.2.2.2.2) s _ _ _)
noncomputable def slices_IndexFunc_114_K (x0 : List GWord) (c1_0_0 : Int) (c1_0_1 : Bool) (c1_0_2 : Int) (c1_0_3 : Int) (c1_0_4 : Int) (c1_0_5 : Int) {ρ : Type} (K : Int → Option ρ) : Option ρ :=
  Option.bind (runL (slices_IndexFunc_114_L0_step x0 c1_0_0 c1_0_1 c1_0_2 c1_0_3 c1_0_4 c1_0_5 (((x0.length : Nat) : Int))) 0) fun ot2 => sumK ot2
    (fun t2 => K (-1))
    (fun k3 => K k3)
noncomputable def slices_IndexFunc_114 (x0 : List GWord) (c1_0_0 : Int) (c1_0_1 : Bool) (c1_0_2 : Int) (c1_0_3 : Int) (c1_0_4 : Int) (c1_0_5 : Int) : Option (Int) := slices_IndexFunc_114_K x0 c1_0_0 c1_0_1 c1_0_2 c1_0_3 c1_0_4 c1_0_5 some
theorem slices_IndexFunc_114_bind (x0 : List GWord) (c1_0_0 : Int) (c1_0_1 : Bool) (c1_0_2 : Int) (c1_0_3 : Int) (c1_0_4 : Int) (c1_0_5 : Int) {ρ : Type} (K : Int → Option ρ) : slices_IndexFunc_114_K x0 c1_0_0 c1_0_1 c1_0_2 c1_0_3 c1_0_4 c1_0_5 K = (slices_IndexFunc_114 x0 c1_0_0 c1_0_1 c1_0_2 c1_0_3 c1_0_4 c1_0_5).bind K := by
  simp only [slices_IndexFunc_114, slices_IndexFunc_114_K, Option.bind_assoc, Option.bind_some, Option.bind_none, cond_bind, sumK_bind]
noncomputable def slices_IndexFunc_114_E : Env Row := envN false 196 2 [(114, impl_Closure_1_1_C)] [(0, slices_IndexFunc_114_L0_H)]
theorem slices_IndexFunc_114_nf (x0 : List GWord) (c1_0_0 : Int) (c1_0_1 : Bool) (c1_0_2 : Int) (c1_0_3 : Int) (c1_0_4 : Int) (c1_0_5 : Int) (ρ : Type) (K : V → Heap Row → Option ρ) : evBody rowU slices_IndexFunc_114_E (bodyC 196) [.c (.sl 0 0), .c (.fn 114 [1])] [⟨.row ⟨.word, x0⟩, 0, 1⟩, ⟨.box [.int .i64 c1_0_0, .bool c1_0_1, .int .i64 c1_0_2, .int .i64 c1_0_3, .int .i64 c1_0_4, .int .i64 c1_0_5], 0, 1⟩] K = slices_IndexFunc_114_K x0 c1_0_0 c1_0_1 c1_0_2 c1_0_3 c1_0_4 c1_0_5 (fun r => K (.c (.int .i64 r)) [⟨.row ⟨.word, x0⟩, 0, 1⟩, ⟨.box [.int .i64 c1_0_0, .bool c1_0_1, .int .i64 c1_0_2, .int .i64 c1_0_3, .int .i64 c1_0_4, .int .i64 c1_0_5], 0, 1⟩]) := by kernel_rfl
def slices_IndexFunc_114_D : List V → Heap Row → Option (List GWord × Int × Bool × Int × Int × Int × Int)
  | [.c (.sl 0 0), .c (.fn 114 [1])], [⟨.row ⟨.word, v1⟩, 0, 1⟩, ⟨.box [.int .i64 v2, .bool v3, .int .i64 v4, .int .i64 v5, .int .i64 v6, .int .i64 v7], 0, 1⟩] => some (v1, v2, v3, v4, v5, v6, v7)
  | _, _ => none
theorem slices_IndexFunc_114_D_ok {vs : List V} {W : Heap Row} {a : List GWord × Int × Bool × Int × Int × Int × Int} (h : slices_IndexFunc_114_D vs W = some a) : vs = [.c (.sl 0 0), .c (.fn 114 [1])] ∧ W = [⟨.row ⟨.word, a.1⟩, 0, 1⟩, ⟨.box [.int .i64 (a.2.1), .bool (a.2.2.1), .int .i64 (a.2.2.2.1), .int .i64 (a.2.2.2.2.1), .int .i64 (a.2.2.2.2.2.1), .int .i64 (a.2.2.2.2.2.2)], 0, 1⟩] := by
  unfold slices_IndexFunc_114_D at h
  split at h
  · simp at h; subst h; exact ⟨rfl, rfl⟩
  · simp at h
noncomputable def slices_IndexFunc_114_C : Callee Row := ⟨[(false, 0), (false, 6)], fun _ vs W K => (slices_IndexFunc_114_D vs W).bind fun a => (slices_IndexFunc_114 a.1 a.2.1 a.2.2.1 a.2.2.2.1 a.2.2.2.2.1 a.2.2.2.2.2.1 a.2.2.2.2.2.2).bind fun r => K (.c (.int .i64 r)) [⟨.row ⟨.word, a.1⟩, 0, 1⟩, ⟨.box [.int .i64 (a.2.1), .bool (a.2.2.1), .int .i64 (a.2.2.2.1), .int .i64 (a.2.2.2.2.1), .int .i64 (a.2.2.2.2.2.1), .int .i64 (a.2.2.2.2.2.2)], 0, 1⟩]⟩
theorem slices_IndexFunc_114_ok : CalleeOk Try.prog rowU 196 slices_IndexFunc_114_C := by
  refine calleeP (nl := false) (m0 := 2) (T := [(114, impl_Closure_1_1_C)]) (H := [(0, slices_IndexFunc_114_L0_H)]) (TabOk.cons impl_Closure_1_1_ok TabOk.nil) (by kernel_rfl) (by kernel_rfl) (fun p hp hb => by
    simp only [List.mem_cons, List.not_mem_nil, or_false] at hp
    subst hp
    exact slices_IndexFunc_114_L0_ok hb) fun ρ vs W K r h => ?_
  obtain ⟨a, ha, h1⟩ := Option.bind_eq_some_iff.1 h
  clear h
  obtain ⟨rfl, rfl⟩ := slices_IndexFunc_114_D_ok ha
  obtain ⟨q, hq, h2⟩ := Option.bind_eq_some_iff.1 h1
  exact ⟨_, _, h2, (slices_IndexFunc_114_nf (a.1) (a.2.1) (a.2.2.1) (a.2.2.2.1) (a.2.2.2.2.1) (a.2.2.2.2.2.1) (a.2.2.2.2.2.2) _ _).trans ((slices_IndexFunc_114_bind (a.1) (a.2.1) (a.2.2.1) (a.2.2.2.1) (a.2.2.2.2.1) (a.2.2.2.2.2.1) (a.2.2.2.2.2.2) _).trans (by rw [hq]; rfl))⟩
/-! slices.ContainsFunc[[]loop.example/g00249/impl.Word,loop.example/g00249/impl.Word] -/
noncomputable def slices_ContainsFunc_114_K (x0 : List GWord) (c1_0_0 : Int) (c1_0_1 : Bool) (c1_0_2 : Int) (c1_0_3 : Int) (c1_0_4 : Int) (c1_0_5 : Int) {ρ : Type} (K : Bool → Option ρ) : Option ρ :=
  Option.bind (slices_IndexFunc_114 x0 c1_0_0 c1_0_1 c1_0_2 c1_0_3 c1_0_4 c1_0_5) fun r1 =>
  K (decide (r1 ≥ 0))
noncomputable def slices_ContainsFunc_114 (x0 : List GWord) (c1_0_0 : Int) (c1_0_1 : Bool) (c1_0_2 : Int) (c1_0_3 : Int) (c1_0_4 : Int) (c1_0_5 : Int) : Option (Bool) := slices_ContainsFunc_114_K x0 c1_0_0 c1_0_1 c1_0_2 c1_0_3 c1_0_4 c1_0_5 some
theorem slices_ContainsFunc_114_bind (x0 : List GWord) (c1_0_0 : Int) (c1_0_1 : Bool) (c1_0_2 : Int) (c1_0_3 : Int) (c1_0_4 : Int) (c1_0_5 : Int) {ρ : Type} (K : Bool → Option ρ) : slices_ContainsFunc_114_K x0 c1_0_0 c1_0_1 c1_0_2 c1_0_3 c1_0_4 c1_0_5 K = (slices_ContainsFunc_114 x0 c1_0_0 c1_0_1 c1_0_2 c1_0_3 c1_0_4 c1_0_5).bind K := by
  simp only [slices_ContainsFunc_114, slices_ContainsFunc_114_K, Option.bind_assoc, Option.bind_some, Option.bind_none, cond_bind, sumK_bind]
noncomputable def slices_ContainsFunc_114_E : Env Row := envN false 113 2 [(196, slices_IndexFunc_114_C)] []
theorem slices_ContainsFunc_114_nf (x0 : List GWord) (c1_0_0 : Int) (c1_0_1 : Bool) (c1_0_2 : Int) (c1_0_3 : Int) (c1_0_4 : Int) (c1_0_5 : Int) (ρ : Type) (K : V → Heap Row → Option ρ) : evBody rowU slices_ContainsFunc_114_E (bodyC 113) [.c (.sl 0 0), .c (.fn 114 [1])] [⟨.row ⟨.word, x0⟩, 0, 1⟩, ⟨.box [.int .i64 c1_0_0, .bool c1_0_1, .int .i64 c1_0_2, .int .i64 c1_0_3, .int .i64 c1_0_4, .int .i64 c1_0_5], 0, 1⟩] K = slices_ContainsFunc_114_K x0 c1_0_0 c1_0_1 c1_0_2 c1_0_3 c1_0_4 c1_0_5 (fun r => K (.c (.bool r)) [⟨.row ⟨.word, x0⟩, 0, 1⟩, ⟨.box [.int .i64 c1_0_0, .bool c1_0_1, .int .i64 c1_0_2, .int .i64 c1_0_3, .int .i64 c1_0_4, .int .i64 c1_0_5], 0, 1⟩]) := by kernel_rfl
def slices_ContainsFunc_114_D : List V → Heap Row → Option (List GWord × Int × Bool × Int × Int × Int × Int)
  | [.c (.sl 0 0), .c (.fn 114 [1])], [⟨.row ⟨.word, v1⟩, 0, 1⟩, ⟨.box [.int .i64 v2, .bool v3, .int .i64 v4, .int .i64 v5, .int .i64 v6, .int .i64 v7], 0, 1⟩] => some (v1, v2, v3, v4, v5, v6, v7)
  | _, _ => none
theorem slices_ContainsFunc_114_D_ok {vs : List V} {W : Heap Row} {a : List GWord × Int × Bool × Int × Int × Int × Int} (h : slices_ContainsFunc_114_D vs W = some a) : vs = [.c (.sl 0 0), .c (.fn 114 [1])] ∧ W = [⟨.row ⟨.word, a.1⟩, 0, 1⟩, ⟨.box [.int .i64 (a.2.1), .bool (a.2.2.1), .int .i64 (a.2.2.2.1), .int .i64 (a.2.2.2.2.1), .int .i64 (a.2.2.2.2.2.1), .int .i64 (a.2.2.2.2.2.2)], 0, 1⟩] := by
  unfold slices_ContainsFunc_114_D at h
  split at h
  · simp at h; subst h; exact ⟨rfl, rfl⟩
  · simp at h
noncomputable def slices_ContainsFunc_114_C : Callee Row := ⟨[(false, 0), (false, 6)], fun _ vs W K => (slices_ContainsFunc_114_D vs W).bind fun a => (slices_ContainsFunc_114 a.1 a.2.1 a.2.2.1 a.2.2.2.1 a.2.2.2.2.1 a.2.2.2.2.2.1 a.2.2.2.2.2.2).bind fun r => K (.c (.bool r)) [⟨.row ⟨.word, a.1⟩, 0, 1⟩, ⟨.box [.int .i64 (a.2.1), .bool (a.2.2.1), .int .i64 (a.2.2.2.1), .int .i64 (a.2.2.2.2.1), .int .i64 (a.2.2.2.2.2.1), .int .i64 (a.2.2.2.2.2.2)], 0, 1⟩]⟩
theorem slices_ContainsFunc_114_ok : CalleeOk Try.prog rowU 113 slices_ContainsFunc_114_C := by
  refine calleeP (nl := false) (m0 := 2) (T := [(196, slices_IndexFunc_114_C)]) (H := []) (TabOk.cons slices_IndexFunc_114_ok TabOk.nil) (by kernel_rfl) (by kernel_rfl) (fun p hp => nomatch hp) fun ρ vs W K r h => ?_
  obtain ⟨a, ha, h1⟩ := Option.bind_eq_some_iff.1 h
  clear h
  obtain ⟨rfl, rfl⟩ := slices_ContainsFunc_114_D_ok ha
  obtain ⟨q, hq, h2⟩ := Option.bind_eq_some_iff.1 h1
  exact ⟨_, _, h2, (slices_ContainsFunc_114_nf (a.1) (a.2.1) (a.2.2.1) (a.2.2.2.1) (a.2.2.2.2.1) (a.2.2.2.2.2.1) (a.2.2.2.2.2.2) _ _).trans ((slices_ContainsFunc_114_bind (a.1) (a.2.1) (a.2.2.1) (a.2.2.2.1) (a.2.2.2.2.1) (a.2.2.2.2.2.1) (a.2.2.2.2.2.2) _).trans (by rw [hq]; rfl))⟩
/-! loop.example/g00249/impl.Closure$1 -/
noncomputable def impl_Closure_1_K (x0 : GWord) (f0_0 : List GWord) {ρ : Type} (K : List GWord × Bool → Option ρ) : Option ρ :=
  cond (x0.is == true)
    (Option.bind (impl_WordOk x0) fun r1 =>
    cond (r1 == true)
      (Option.bind (slices_ContainsFunc_114 f0_0 x0.n x0.is x0.key.base x0.key.top x0.key.perms x0.key.seal_) fun r2 =>
      cond (!r2)
        (cond (decide ((((f0_0.length) + 1) * 48) ≤ 140737488355328)) (K (f0_0 ++ [x0], true)) none)
        (K (f0_0, false)))
      (K (f0_0, false)))
    (K (f0_0, false))
noncomputable def impl_Closure_1 (x0 : GWord) (f0_0 : List GWord) : Option (List GWord × Bool) := impl_Closure_1_K x0 f0_0 some
theorem impl_Closure_1_bind (x0 : GWord) (f0_0 : List GWord) {ρ : Type} (K : List GWord × Bool → Option ρ) : impl_Closure_1_K x0 f0_0 K = (impl_Closure_1 x0 f0_0).bind K := by
  simp only [impl_Closure_1, impl_Closure_1_K, Option.bind_assoc, Option.bind_some, Option.bind_none, cond_bind, sumK_bind]
noncomputable def impl_Closure_1_E : Env Row := envN false 112 2 [(32, impl_WordOk_C), (113, slices_ContainsFunc_114_C)] []
theorem impl_Closure_1_nf (x0 : GWord) (f0_0 : List GWord) (ρ : Type) (K : V → Heap Row → Option ρ) : evBody rowU impl_Closure_1_E (bodyC 112) [.a [.int .i64 x0.n, .bool x0.is, .int .i64 x0.key.base, .int .i64 x0.key.top, .int .i64 x0.key.perms, .int .i64 x0.key.seal_], .c (.ptr 0 0)] [⟨.box [.sl 1 0], 0, 2⟩, ⟨.row ⟨.word, f0_0⟩, 0, 2⟩] K = impl_Closure_1_K x0 f0_0 (fun r => cond r.2 (K (.t []) [⟨.box [.sl 1 1], 0, 2⟩, ⟨.row ⟨.word, r.1⟩, 1, 2⟩]) (K (.t []) [⟨.box [.sl 1 0], 0, 2⟩, ⟨.row ⟨.word, r.1⟩, 0, 2⟩])) := by kernel_rfl
def impl_Closure_1_D : List V → Heap Row → Option (GWord × List GWord)
  | [.a (.int .i64 v1 :: .bool v2 :: .int .i64 v3 :: .int .i64 v4 :: .int .i64 v5 :: .int .i64 v6 :: []), .c (.ptr 0 0)], [⟨.box [.sl 1 0], 0, 2⟩, ⟨.row ⟨.word, v7⟩, 0, 2⟩] => some (⟨v1, v2, ⟨v3, v4, v5, v6⟩⟩, v7)
  | _, _ => none
theorem impl_Closure_1_D_ok {vs : List V} {W : Heap Row} {a : GWord × List GWord} (h : impl_Closure_1_D vs W = some a) : vs = [.a [.int .i64 (a.1).n, .bool (a.1).is, .int .i64 (a.1).key.base, .int .i64 (a.1).key.top, .int .i64 (a.1).key.perms, .int .i64 (a.1).key.seal_], .c (.ptr 0 0)] ∧ W = [⟨.box [.sl 1 0], 0, 2⟩, ⟨.row ⟨.word, a.2⟩, 0, 2⟩] := by
  unfold impl_Closure_1_D at h
  split at h
  · simp at h; subst h; exact ⟨rfl, rfl⟩
  · simp at h
noncomputable def impl_Closure_1_C : Callee Row := ⟨[(true, 1), (true, 0)], fun _ vs W K => (impl_Closure_1_D vs W).bind fun a => (impl_Closure_1 a.1 a.2).bind fun r => cond r.2 (K (.t []) [⟨.box [.sl 1 1], 0, 2⟩, ⟨.row ⟨.word, r.1⟩, 1, 2⟩]) (K (.t []) [⟨.box [.sl 1 0], 0, 2⟩, ⟨.row ⟨.word, r.1⟩, 0, 2⟩])⟩
theorem impl_Closure_1_ok : CalleeOk Try.prog rowU 112 impl_Closure_1_C := by
  refine calleeP (nl := false) (m0 := 2) (T := [(32, impl_WordOk_C), (113, slices_ContainsFunc_114_C)]) (H := []) (TabOk.cons impl_WordOk_ok (TabOk.cons slices_ContainsFunc_114_ok TabOk.nil)) (by kernel_rfl) (by kernel_rfl) (fun p hp => nomatch hp) fun ρ vs W K r h => ?_
  obtain ⟨a, ha, h1⟩ := Option.bind_eq_some_iff.1 h
  clear h
  obtain ⟨rfl, rfl⟩ := impl_Closure_1_D_ok ha
  obtain ⟨q, hq, h2⟩ := Option.bind_eq_some_iff.1 h1
  have key : evBody rowU impl_Closure_1_E (bodyC 112) _ _ (fun v H => some (v, H)) = (cond (q).2 (some (.t [], [⟨.box [.sl 1 1], 0, 2⟩, ⟨.row ⟨.word, q.1⟩, 1, 2⟩])) (some (.t [], [⟨.box [.sl 1 0], 0, 2⟩, ⟨.row ⟨.word, q.1⟩, 0, 2⟩])) : Option (V × Heap Row)) := (impl_Closure_1_nf (a.1) (a.2) _ _).trans ((impl_Closure_1_bind (a.1) (a.2) _).trans (by rw [hq]; rfl))
  cases hb : (q).2
  · rw [hb] at h2 key; exact ⟨_, _, h2, key⟩
  · rw [hb] at h2 key; exact ⟨_, _, h2, key⟩
/-! loop.example/g00249/impl.spanned -/
def impl_spanned_K (x0 : GKey) {ρ : Type} (K : Int × Int → Option ρ) : Option ρ :=
  K (x0.base, mn x0.top 24)
def impl_spanned (x0 : GKey) : Option (Int × Int) := impl_spanned_K x0 some
theorem impl_spanned_bind (x0 : GKey) {ρ : Type} (K : Int × Int → Option ρ) : impl_spanned_K x0 K = (impl_spanned x0).bind K := by
  simp only [impl_spanned, impl_spanned_K, Option.bind_assoc, Option.bind_some, Option.bind_none, cond_bind, sumK_bind]
noncomputable def impl_spanned_E : Env Row := envN false 115 0 [] []
theorem impl_spanned_nf (x0 : GKey) (ρ : Type) (K : V → Heap Row → Option ρ) : evBody rowU impl_spanned_E (bodyC 115) [.a [.int .i64 x0.base, .int .i64 x0.top, .int .i64 x0.perms, .int .i64 x0.seal_]] [] K = impl_spanned_K x0 (fun r => K (.t [(false, [.int .i64 r.1]), (false, [.int .i64 r.2])]) []) := by kernel_rfl
def impl_spanned_D : List V → Heap Row → Option (GKey)
  | [.a (.int .i64 v1 :: .int .i64 v2 :: .int .i64 v3 :: .int .i64 v4 :: [])], [] => some (⟨v1, v2, v3, v4⟩)
  | _, _ => none
theorem impl_spanned_D_ok {vs : List V} {W : Heap Row} {a : GKey} (h : impl_spanned_D vs W = some a) : vs = [.a [.int .i64 (a).base, .int .i64 (a).top, .int .i64 (a).perms, .int .i64 (a).seal_]] ∧ W = [] := by
  unfold impl_spanned_D at h
  split at h
  · simp at h; subst h; exact ⟨rfl, rfl⟩
  · simp at h
def impl_spanned_C : Callee Row := ⟨[], fun _ vs W K => (impl_spanned_D vs W).bind fun a => (impl_spanned a).bind fun r => K (.t [(false, [.int .i64 r.1]), (false, [.int .i64 r.2])]) []⟩
theorem impl_spanned_ok : CalleeOk Try.prog rowU 115 impl_spanned_C := by
  refine calleeP (nl := false) (m0 := 0) (T := []) (H := []) TabOk.nil (by kernel_rfl) (by kernel_rfl) (fun p hp => nomatch hp) fun ρ vs W K r h => ?_
  obtain ⟨a, ha, h1⟩ := Option.bind_eq_some_iff.1 h
  clear h
  obtain ⟨rfl, rfl⟩ := impl_spanned_D_ok ha
  obtain ⟨q, hq, h2⟩ := Option.bind_eq_some_iff.1 h1
  exact ⟨_, _, h2, (impl_spanned_nf a _ _).trans ((impl_spanned_bind a _).trans (by rw [hq]; rfl))⟩
/-! loop.example/g00249/impl.Closure -/
noncomputable def impl_Closure_L4_K (l0 : List GWord) (l1 : List Bool) (l2 : List GWord) (n4 : Int) (n5 : Int) (l3 : List GWord) (n6 : Int) {ρ : Type} (A : List GWord × Int → Option ρ) (X : List GWord → Option ρ) (R : Unit → Option ρ) : Option ρ :=
  cond (decide (n6 < n5))
    (cond (decide (0 ≤ n6)) (cond (decide (n6 < (((l0.length : Nat) : Int)))) (Option.bind (impl_Closure_1 (List.getD l0 (n6.toNat) (default)) l3) fun r5 =>
    cond r5.2
      (A (r5.1, w64 (n6 + 1)))
      (A (r5.1, w64 (n6 + 1)))) none) none)
    (X l3)
noncomputable def impl_Closure_L4_step (l0 : List GWord) (l1 : List Bool) (l2 : List GWord) (n4 : Int) (n5 : Int) (s : List GWord × Int) : Option (Rnd (List GWord × Int) (List GWord) (Unit)) := impl_Closure_L4_K l0 l1 l2 n4 n5 (s.1) (s.2) (fun s => some (.again s)) (fun t => some (.exit t)) (fun k => some (.ret k))
theorem impl_Closure_L4_bind (l0 : List GWord) (l1 : List Bool) (l2 : List GWord) (n4 : Int) (n5 : Int) (s : List GWord × Int) {ρ : Type} (A : List GWord × Int → Option ρ) (X : List GWord → Option ρ) (R : Unit → Option ρ) : impl_Closure_L4_K l0 l1 l2 n4 n5 (s.1) (s.2) A X R = (impl_Closure_L4_step l0 l1 l2 n4 n5 s).bind (rndE A X R) := by
  simp only [impl_Closure_L4_step, impl_Closure_L4_K, Option.bind_assoc, Option.bind_some, Option.bind_none, cond_bind, sumK_bind, rndE_again, rndE_exit, rndE_ret]
def impl_Closure_L4_st (p : List GWord × List Bool × List GWord × Int × Int) (s : List GWord × Int) : List V × Heap Row := ([.c (.ptr 3 0), .c (.ptr 4 0), .c (.fn 112 [4]), .c (.int .i64 (p.2.2.2.1)), .c (.int .i64 (p.2.2.2.2)), .c (.int .i64 (s.2))], [⟨.row ⟨.word, p.1⟩, 0, 1⟩, ⟨.row ⟨.bool, p.2.1⟩, 0, 1⟩, ⟨.row ⟨.word, p.2.2.1⟩, 0, 1⟩, ⟨.box [.sl 0 0, .sl 1 0], 0, 2⟩, ⟨.box [.sl 5 0], 0, 2⟩, ⟨.row ⟨.word, s.1⟩, 0, 2⟩])
def impl_Closure_L4_so (p : List GWord × List Bool × List GWord × Int × Int) (t : List GWord) : List V × Heap Row := ([.c (.ptr 3 0), .c (.ptr 4 0), .c (.fn 112 [4]), .c (.int .i64 (p.2.2.2.1))], [⟨.row ⟨.word, p.1⟩, 0, 1⟩, ⟨.row ⟨.bool, p.2.1⟩, 0, 1⟩, ⟨.row ⟨.word, p.2.2.1⟩, 0, 1⟩, ⟨.box [.sl 0 0, .sl 1 0], 0, 2⟩, ⟨.box [.sl 5 0], 0, 2⟩, ⟨.row ⟨.word, t⟩, 0, 2⟩])
def impl_Closure_L4_D : List V → Heap Row → Option ((List GWord × List Bool × List GWord × Int × Int) × (List GWord × Int))
  | [.c (.ptr 3 0), .c (.ptr 4 0), .c (.fn 112 [4]), .c (.int .i64 v1), .c (.int .i64 v2), .c (.int .i64 v3)], [⟨.row ⟨.word, v4⟩, 0, 1⟩, ⟨.row ⟨.bool, v5⟩, 0, 1⟩, ⟨.row ⟨.word, v6⟩, 0, 1⟩, ⟨.box [.sl 0 0, .sl 1 0], 0, 2⟩, ⟨.box [.sl 5 0], 0, 2⟩, ⟨.row ⟨.word, v7⟩, 0, 2⟩] => some ((v4, v5, v6, v1, v2), (v7, v3))
  | _, _ => none
theorem impl_Closure_L4_D_ok (vs : List V) (L : Heap Row) (p : List GWord × List Bool × List GWord × Int × Int) (s : List GWord × Int) (h : impl_Closure_L4_D vs L = some (p, s)) : impl_Closure_L4_st p s = (vs, L) := by
  unfold impl_Closure_L4_D at h
  split at h
  · simp at h; obtain ⟨rfl, rfl⟩ := h; rfl
  · simp at h
noncomputable def impl_Closure_L4_H : LoopH Row := loopX [2, 5, 6, 9, 12, 13] [2, 5, 6, 9] impl_Closure_L4_D (fun p => impl_Closure_L4_step (p.1) (p.2.1) (p.2.2.1) (p.2.2.2.1) (p.2.2.2.2)) impl_Closure_L4_so
noncomputable def impl_Closure_L0_K (l0 : List GWord) (l1 : List Bool) (l2 : List GWord) (n4 : Int) (l3 : List GWord) (n5 : Int) {ρ : Type} (A : List GWord × Int → Option ρ) (X : List GWord → Option ρ) (R : Unit → Option ρ) : Option ρ :=
  cond (decide (n5 < n4))
    (cond (decide (0 ≤ n5)) (cond (decide (n5 < (((l2.length : Nat) : Int)))) (Option.bind (impl_Closure_1 (List.getD l2 (n5.toNat) (default)) l3) fun r2 =>
    cond r2.2
      (A (r2.1, w64 (n5 + 1)))
      (A (r2.1, w64 (n5 + 1)))) none) none)
    (X l3)
noncomputable def impl_Closure_L0_step (l0 : List GWord) (l1 : List Bool) (l2 : List GWord) (n4 : Int) (s : List GWord × Int) : Option (Rnd (List GWord × Int) (List GWord) (Unit)) := impl_Closure_L0_K l0 l1 l2 n4 (s.1) (s.2) (fun s => some (.again s)) (fun t => some (.exit t)) (fun k => some (.ret k))
theorem impl_Closure_L0_bind (l0 : List GWord) (l1 : List Bool) (l2 : List GWord) (n4 : Int) (s : List GWord × Int) {ρ : Type} (A : List GWord × Int → Option ρ) (X : List GWord → Option ρ) (R : Unit → Option ρ) : impl_Closure_L0_K l0 l1 l2 n4 (s.1) (s.2) A X R = (impl_Closure_L0_step l0 l1 l2 n4 s).bind (rndE A X R) := by
  simp only [impl_Closure_L0_step, impl_Closure_L0_K, Option.bind_assoc, Option.bind_some, Option.bind_none, cond_bind, sumK_bind, rndE_again, rndE_exit, rndE_ret]
def impl_Closure_L0_st (p : List GWord × List Bool × List GWord × Int) (s : List GWord × Int) : List V × Heap Row := ([.c (.ptr 3 0), .c (.ptr 4 0), .c (.fn 112 [4]), .c (.sl 2 0), .c (.int .i64 (p.2.2.2)), .c (.int .i64 (s.2))], [⟨.row ⟨.word, p.1⟩, 0, 1⟩, ⟨.row ⟨.bool, p.2.1⟩, 0, 1⟩, ⟨.row ⟨.word, p.2.2.1⟩, 0, 1⟩, ⟨.box [.sl 0 0, .sl 1 0], 0, 2⟩, ⟨.box [.sl 5 0], 0, 2⟩, ⟨.row ⟨.word, s.1⟩, 0, 2⟩])
def impl_Closure_L0_so (p : List GWord × List Bool × List GWord × Int) (t : List GWord) : List V × Heap Row := ([.c (.ptr 3 0), .c (.ptr 4 0), .c (.fn 112 [4])], [⟨.row ⟨.word, p.1⟩, 0, 1⟩, ⟨.row ⟨.bool, p.2.1⟩, 0, 1⟩, ⟨.row ⟨.word, p.2.2.1⟩, 0, 1⟩, ⟨.box [.sl 0 0, .sl 1 0], 0, 2⟩, ⟨.box [.sl 5 0], 0, 2⟩, ⟨.row ⟨.word, t⟩, 0, 2⟩])
def impl_Closure_L0_D : List V → Heap Row → Option ((List GWord × List Bool × List GWord × Int) × (List GWord × Int))
  | [.c (.ptr 3 0), .c (.ptr 4 0), .c (.fn 112 [4]), .c (.sl 2 0), .c (.int .i64 v1), .c (.int .i64 v2)], [⟨.row ⟨.word, v3⟩, 0, 1⟩, ⟨.row ⟨.bool, v4⟩, 0, 1⟩, ⟨.row ⟨.word, v5⟩, 0, 1⟩, ⟨.box [.sl 0 0, .sl 1 0], 0, 2⟩, ⟨.box [.sl 5 0], 0, 2⟩, ⟨.row ⟨.word, v6⟩, 0, 2⟩] => some ((v3, v4, v5, v1), (v6, v2))
  | _, _ => none
theorem impl_Closure_L0_D_ok (vs : List V) (L : Heap Row) (p : List GWord × List Bool × List GWord × Int) (s : List GWord × Int) (h : impl_Closure_L0_D vs L = some (p, s)) : impl_Closure_L0_st p s = (vs, L) := by
  unfold impl_Closure_L0_D at h
  split at h
  · simp at h; obtain ⟨rfl, rfl⟩ := h; rfl
  · simp at h
noncomputable def impl_Closure_L0_H : LoopH Row := loopX [2, 5, 6, 19, 20, 21] [2, 5, 6] impl_Closure_L0_D (fun p => impl_Closure_L0_step (p.1) (p.2.1) (p.2.2.1) (p.2.2.2)) impl_Closure_L0_so
noncomputable def impl_Closure_L2_K (l0 : List GWord) (l1 : List Bool) (l2 : List GWord) (l3 : List GWord) (n4 : Int) {ρ : Type} (A : List GWord × Int → Option ρ) (X : List GWord → Option ρ) (R : Unit → Option ρ) : Option ρ :=
  cond (decide (n4 < (((l3.length : Nat) : Int))))
    (cond (decide (0 ≤ n4)) (cond (decide (n4 < (((l3.length : Nat) : Int)))) (cond (((bits .and .i64 (List.getD l3 (n4.toNat) (default)).key.perms 1) == 0) == false)
      (cond ((bits .and .i64 (List.getD l3 (n4.toNat) (default)).key.perms 8) == 0)
        (A (l3, w64 (n4 + 1)))
        (Option.bind (impl_spanned (List.getD l3 (n4.toNat) (default)).key) fun r4 =>
        Option.bind (runX (impl_Closure_L4_step l0 l1 l2 n4 r4.2) (l3, r4.1)) fun t6 =>
        A (t6, w64 (n4 + 1))))
      (A (l3, w64 (n4 + 1)))) none) none)
    (X l3)
noncomputable def impl_Closure_L2_step (l0 : List GWord) (l1 : List Bool) (l2 : List GWord) (s : List GWord × Int) : Option (Rnd (List GWord × Int) (List GWord) (Unit)) := impl_Closure_L2_K l0 l1 l2 (s.1) (s.2) (fun s => some (.again s)) (fun t => some (.exit t)) (fun k => some (.ret k))
theorem impl_Closure_L2_bind (l0 : List GWord) (l1 : List Bool) (l2 : List GWord) (s : List GWord × Int) {ρ : Type} (A : List GWord × Int → Option ρ) (X : List GWord → Option ρ) (R : Unit → Option ρ) : impl_Closure_L2_K l0 l1 l2 (s.1) (s.2) A X R = (impl_Closure_L2_step l0 l1 l2 s).bind (rndE A X R) := by
  simp only [impl_Closure_L2_step, impl_Closure_L2_K, Option.bind_assoc, Option.bind_some, Option.bind_none, cond_bind, sumK_bind, rndE_again, rndE_exit, rndE_ret]
def impl_Closure_L2_st (p : List GWord × List Bool × List GWord) (s : List GWord × Int) : List V × Heap Row := ([.c (.ptr 3 0), .c (.ptr 4 0), .c (.fn 112 [4]), .c (.int .i64 (s.2))], [⟨.row ⟨.word, p.1⟩, 0, 1⟩, ⟨.row ⟨.bool, p.2.1⟩, 0, 1⟩, ⟨.row ⟨.word, p.2.2⟩, 0, 1⟩, ⟨.box [.sl 0 0, .sl 1 0], 0, 2⟩, ⟨.box [.sl 5 0], 0, 2⟩, ⟨.row ⟨.word, s.1⟩, 0, 2⟩])
def impl_Closure_L2_so (p : List GWord × List Bool × List GWord) (t : List GWord) : List V × Heap Row := ([.c (.ptr 3 0)], [⟨.row ⟨.word, p.1⟩, 0, 1⟩, ⟨.row ⟨.bool, p.2.1⟩, 0, 1⟩, ⟨.row ⟨.word, p.2.2⟩, 0, 1⟩, ⟨.box [.sl 4 0], 0, 2⟩, ⟨.row ⟨.word, t⟩, 0, 2⟩])
def impl_Closure_L2_D : List V → Heap Row → Option ((List GWord × List Bool × List GWord) × (List GWord × Int))
  | [.c (.ptr 3 0), .c (.ptr 4 0), .c (.fn 112 [4]), .c (.int .i64 v1)], [⟨.row ⟨.word, v2⟩, 0, 1⟩, ⟨.row ⟨.bool, v3⟩, 0, 1⟩, ⟨.row ⟨.word, v4⟩, 0, 1⟩, ⟨.box [.sl 0 0, .sl 1 0], 0, 2⟩, ⟨.box [.sl 5 0], 0, 2⟩, ⟨.row ⟨.word, v5⟩, 0, 2⟩] => some ((v2, v3, v4), (v5, v1))
  | _, _ => none
theorem impl_Closure_L2_D_ok (vs : List V) (L : Heap Row) (p : List GWord × List Bool × List GWord) (s : List GWord × Int) (h : impl_Closure_L2_D vs L = some (p, s)) : impl_Closure_L2_st p s = (vs, L) := by
  unfold impl_Closure_L2_D at h
  split at h
  · simp at h; obtain ⟨rfl, rfl⟩ := h; rfl
  · simp at h
noncomputable def impl_Closure_L2_H : LoopH Row := loopX [2, 5, 6, 9] [5] impl_Closure_L2_D (fun p => impl_Closure_L2_step (p.1) (p.2.1) (p.2.2)) impl_Closure_L2_so
theorem impl_Closure_L4_nf (p : List GWord × List Bool × List GWord × Int × Int) (s : List GWord × Int) (ρ : Type) (again Kx Kr : List V → Heap Row → Option ρ) : evRound rowU (envOf 18 3 [(31, impl_MemoryOk_C), (112, impl_Closure_1_C), (115, impl_spanned_C)] [(4, impl_Closure_L4_H), (0, impl_Closure_L0_H), (2, impl_Closure_L2_H)]) 4 impl_Closure_L4_H (loopC 18 4) again (impl_Closure_L4_st p s).1 (impl_Closure_L4_st p s).2 Kx Kr = impl_Closure_L4_K (p.1) (p.2.1) (p.2.2.1) (p.2.2.2.1) (p.2.2.2.2) (s.1) (s.2) (fun s => again (impl_Closure_L4_st p s).1 (impl_Closure_L4_st p s).2) (fun t => Kx (impl_Closure_L4_so p t).1 (impl_Closure_L4_so p t).2) (fun _ => none) := by kernel_rfl
theorem impl_Closure_L4_ok (hb : LoopsOk Try.prog rowU (envOf 18 3 [(31, impl_MemoryOk_C), (112, impl_Closure_1_C), (115, impl_spanned_C)] [(4, impl_Closure_L4_H), (0, impl_Closure_L0_H), (2, impl_Closure_L2_H)]) (loopAt (codeP 18) 4)) : LoopOk Try.prog rowU (envOf 18 3 [(31, impl_MemoryOk_C), (112, impl_Closure_1_C), (115, impl_spanned_C)] [(4, impl_Closure_L4_H), (0, impl_Closure_L0_H), (2, impl_Closure_L2_H)]) 4 (loopAt (codeP 18) 4) impl_Closure_L4_H :=
  loopX_ok tagOk mixed envNl (envT (TabOk.cons impl_MemoryOk_ok (TabOk.cons impl_Closure_1_ok (TabOk.cons impl_spanned_ok TabOk.nil)))) hb impl_Closure_L4_st impl_Closure_L4_D_ok fun p s ρ A Kx Kr => (impl_Closure_L4_nf p s ρ A Kx Kr).trans (impl_Closure_L4_bind (p.1) (p.2.1) (p.2.2.1) (p.2.2.2.1) (p.2.2.2.2) s _ _ _)
theorem impl_Closure_L0_nf (p : List GWord × List Bool × List GWord × Int) (s : List GWord × Int) (ρ : Type) (again Kx Kr : List V → Heap Row → Option ρ) : evRound rowU (envOf 18 3 [(31, impl_MemoryOk_C), (112, impl_Closure_1_C), (115, impl_spanned_C)] [(4, impl_Closure_L4_H), (0, impl_Closure_L0_H), (2, impl_Closure_L2_H)]) 0 impl_Closure_L0_H (loopC 18 0) again (impl_Closure_L0_st p s).1 (impl_Closure_L0_st p s).2 Kx Kr = impl_Closure_L0_K (p.1) (p.2.1) (p.2.2.1) (p.2.2.2) (s.1) (s.2) (fun s => again (impl_Closure_L0_st p s).1 (impl_Closure_L0_st p s).2) (fun t => Kx (impl_Closure_L0_so p t).1 (impl_Closure_L0_so p t).2) (fun _ => none) := by kernel_rfl
theorem impl_Closure_L0_ok (hb : LoopsOk Try.prog rowU (envOf 18 3 [(31, impl_MemoryOk_C), (112, impl_Closure_1_C), (115, impl_spanned_C)] [(4, impl_Closure_L4_H), (0, impl_Closure_L0_H), (2, impl_Closure_L2_H)]) (loopAt (codeP 18) 0)) : LoopOk Try.prog rowU (envOf 18 3 [(31, impl_MemoryOk_C), (112, impl_Closure_1_C), (115, impl_spanned_C)] [(4, impl_Closure_L4_H), (0, impl_Closure_L0_H), (2, impl_Closure_L2_H)]) 0 (loopAt (codeP 18) 0) impl_Closure_L0_H :=
  loopX_ok tagOk mixed envNl (envT (TabOk.cons impl_MemoryOk_ok (TabOk.cons impl_Closure_1_ok (TabOk.cons impl_spanned_ok TabOk.nil)))) hb impl_Closure_L0_st impl_Closure_L0_D_ok fun p s ρ A Kx Kr => (impl_Closure_L0_nf p s ρ A Kx Kr).trans (impl_Closure_L0_bind (p.1) (p.2.1) (p.2.2.1) (p.2.2.2) s _ _ _)
theorem impl_Closure_L2_nf (p : List GWord × List Bool × List GWord) (s : List GWord × Int) (ρ : Type) (again Kx Kr : List V → Heap Row → Option ρ) : evRound rowU (envOf 18 3 [(31, impl_MemoryOk_C), (112, impl_Closure_1_C), (115, impl_spanned_C)] [(4, impl_Closure_L4_H), (0, impl_Closure_L0_H), (2, impl_Closure_L2_H)]) 2 impl_Closure_L2_H (loopC 18 2) again (impl_Closure_L2_st p s).1 (impl_Closure_L2_st p s).2 Kx Kr = impl_Closure_L2_K (p.1) (p.2.1) (p.2.2) (s.1) (s.2) (fun s => again (impl_Closure_L2_st p s).1 (impl_Closure_L2_st p s).2) (fun t => Kx (impl_Closure_L2_so p t).1 (impl_Closure_L2_so p t).2) (fun _ => none) := by kernel_rfl
theorem impl_Closure_L2_ok (hb : LoopsOk Try.prog rowU (envOf 18 3 [(31, impl_MemoryOk_C), (112, impl_Closure_1_C), (115, impl_spanned_C)] [(4, impl_Closure_L4_H), (0, impl_Closure_L0_H), (2, impl_Closure_L2_H)]) (loopAt (codeP 18) 2)) : LoopOk Try.prog rowU (envOf 18 3 [(31, impl_MemoryOk_C), (112, impl_Closure_1_C), (115, impl_spanned_C)] [(4, impl_Closure_L4_H), (0, impl_Closure_L0_H), (2, impl_Closure_L2_H)]) 2 (loopAt (codeP 18) 2) impl_Closure_L2_H :=
  loopX_ok tagOk mixed envNl (envT (TabOk.cons impl_MemoryOk_ok (TabOk.cons impl_Closure_1_ok (TabOk.cons impl_spanned_ok TabOk.nil)))) hb impl_Closure_L2_st impl_Closure_L2_D_ok fun p s ρ A Kx Kr => (impl_Closure_L2_nf p s ρ A Kx Kr).trans (impl_Closure_L2_bind (p.1) (p.2.1) (p.2.2) s _ _ _)
noncomputable def impl_Closure_K (x0 : GMemory) (x1 : List GWord) {ρ : Type} (K : List GWord → Option ρ) : Option ρ :=
  Option.bind (impl_MemoryOk x0) fun r1 =>
  cond (!r1)
    (K [])
    (Option.bind (runX (impl_Closure_L0_step x0.words x0.gone x1 (((x1.length : Nat) : Int))) ([], 0)) fun t3 =>
    Option.bind (runX (impl_Closure_L2_step x0.words x0.gone x1) (t3, 0)) fun t7 =>
    K t7)
noncomputable def impl_Closure (x0 : GMemory) (x1 : List GWord) : Option (List GWord) := impl_Closure_K x0 x1 some
theorem impl_Closure_bind (x0 : GMemory) (x1 : List GWord) {ρ : Type} (K : List GWord → Option ρ) : impl_Closure_K x0 x1 K = (impl_Closure x0 x1).bind K := by
  simp only [impl_Closure, impl_Closure_K, Option.bind_assoc, Option.bind_some, Option.bind_none, cond_bind, sumK_bind]
noncomputable def impl_Closure_E : Env Row := envN false 18 3 [(31, impl_MemoryOk_C), (112, impl_Closure_1_C), (115, impl_spanned_C)] [(4, impl_Closure_L4_H), (0, impl_Closure_L0_H), (2, impl_Closure_L2_H)]
theorem impl_Closure_nf (x0 : GMemory) (x1 : List GWord) (ρ : Type) (K : V → Heap Row → Option ρ) : evBody rowU impl_Closure_E (bodyC 18) [.a [.sl 0 0, .sl 1 0], .c (.sl 2 0)] [⟨.row ⟨.word, x0.words⟩, 0, 1⟩, ⟨.row ⟨.bool, x0.gone⟩, 0, 1⟩, ⟨.row ⟨.word, x1⟩, 0, 1⟩] K = impl_Closure_K x0 x1 (fun r => K (.c (.sl 3 0)) [⟨.row ⟨.word, x0.words⟩, 0, 1⟩, ⟨.row ⟨.bool, x0.gone⟩, 0, 1⟩, ⟨.row ⟨.word, x1⟩, 0, 1⟩, ⟨.row ⟨.word, r⟩, 0, 2⟩]) := by kernel_rfl
def impl_Closure_D : List V → Heap Row → Option (GMemory × List GWord)
  | [.a (.sl 0 0 :: .sl 1 0 :: []), .c (.sl 2 0)], [⟨.row ⟨.word, v1⟩, 0, 1⟩, ⟨.row ⟨.bool, v2⟩, 0, 1⟩, ⟨.row ⟨.word, v3⟩, 0, 1⟩] => some (⟨v1, v2⟩, v3)
  | _, _ => none
theorem impl_Closure_D_ok {vs : List V} {W : Heap Row} {a : GMemory × List GWord} (h : impl_Closure_D vs W = some a) : vs = [.a [.sl 0 0, .sl 1 0], .c (.sl 2 0)] ∧ W = [⟨.row ⟨.word, (a.1).words⟩, 0, 1⟩, ⟨.row ⟨.bool, (a.1).gone⟩, 0, 1⟩, ⟨.row ⟨.word, a.2⟩, 0, 1⟩] := by
  unfold impl_Closure_D at h
  split at h
  · simp at h; subst h; exact ⟨rfl, rfl⟩
  · simp at h
noncomputable def impl_Closure_C : Callee Row := ⟨[(false, 0), (false, 0), (false, 0)], fun _ vs W K => (impl_Closure_D vs W).bind fun a => (impl_Closure a.1 a.2).bind fun r => K (.c (.sl 3 0)) [⟨.row ⟨.word, (a.1).words⟩, 0, 1⟩, ⟨.row ⟨.bool, (a.1).gone⟩, 0, 1⟩, ⟨.row ⟨.word, a.2⟩, 0, 1⟩, ⟨.row ⟨.word, r⟩, 0, 2⟩]⟩
theorem impl_Closure_ok : CalleeOk Try.prog rowU 18 impl_Closure_C := by
  refine calleeP (nl := false) (m0 := 3) (T := [(31, impl_MemoryOk_C), (112, impl_Closure_1_C), (115, impl_spanned_C)]) (H := [(4, impl_Closure_L4_H), (0, impl_Closure_L0_H), (2, impl_Closure_L2_H)]) (TabOk.cons impl_MemoryOk_ok (TabOk.cons impl_Closure_1_ok (TabOk.cons impl_spanned_ok TabOk.nil))) (by kernel_rfl) (by kernel_rfl) (fun p hp hb => by
    simp only [List.mem_cons, List.not_mem_nil, or_false] at hp
    rcases hp with rfl | rfl | rfl
    · exact impl_Closure_L4_ok hb
    · exact impl_Closure_L0_ok hb
    · exact impl_Closure_L2_ok hb) fun ρ vs W K r h => ?_
  obtain ⟨a, ha, h1⟩ := Option.bind_eq_some_iff.1 h
  clear h
  obtain ⟨rfl, rfl⟩ := impl_Closure_D_ok ha
  obtain ⟨q, hq, h2⟩ := Option.bind_eq_some_iff.1 h1
  exact ⟨_, _, h2, (impl_Closure_nf (a.1) (a.2) _ _).trans ((impl_Closure_bind (a.1) (a.2) _).trans (by rw [hq]; rfl))⟩
/-! loop.example/g00249/spec.DrawLoadCells -/
noncomputable def spec_DrawLoadCells_L0_K (l0 : List Int) (l4 : List GWord) (l5 : List Bool) (n1 : Int) (n2 : Int) (l3 : List GWord) (n6 : Int) {ρ : Type} (A : Int × Int × List GWord × Int → Option ρ) (X : List GWord → Option ρ) (R : Unit → Option ρ) : Option ρ :=
  Option.bind (spec_l1Below (⟨l0, n1, n2⟩ : GL1Cur) 4) fun r3 =>
  cond (decide (n6 < r3.1))
    (Option.bind (spec_l3Draw (⟨l0, r3.2.1, r3.2.2⟩ : GL1Cur)) fun r4 =>
    cond (decide ((((l3.length) + 1) * 48) ≤ 140737488355328)) (A (r4.2.1, r4.2.2, l3 ++ [r4.1], w64 (n6 + 1))) none)
    (X l3)
noncomputable def spec_DrawLoadCells_L0_step (l0 : List Int) (l4 : List GWord) (l5 : List Bool) (s : Int × Int × List GWord × Int) : Option (Rnd (Int × Int × List GWord × Int) (List GWord) (Unit)) := spec_DrawLoadCells_L0_K l0 l4 l5 (s.1) (s.2.1) (s.2.2.1) (s.2.2.2) (fun s => some (.again s)) (fun t => some (.exit t)) (fun k => some (.ret k))
theorem spec_DrawLoadCells_L0_bind (l0 : List Int) (l4 : List GWord) (l5 : List Bool) (s : Int × Int × List GWord × Int) {ρ : Type} (A : Int × Int × List GWord × Int → Option ρ) (X : List GWord → Option ρ) (R : Unit → Option ρ) : spec_DrawLoadCells_L0_K l0 l4 l5 (s.1) (s.2.1) (s.2.2.1) (s.2.2.2) A X R = (spec_DrawLoadCells_L0_step l0 l4 l5 s).bind (rndE A X R) := by
  simp only [spec_DrawLoadCells_L0_step, spec_DrawLoadCells_L0_K, Option.bind_assoc, Option.bind_some, Option.bind_none, cond_bind, sumK_bind, rndE_again, rndE_exit, rndE_ret]
def spec_DrawLoadCells_L0_st (p : List Int × List GWord × List Bool) (s : Int × Int × List GWord × Int) : List V × Heap Row := ([.c (.ptr 1 0), .c (.ptr 2 0), .c (.ptr 3 0), .c (.sl 4 0), .c (.int .i64 (s.2.2.2))], [⟨.row ⟨.byte, p.1⟩, 0, 1⟩, ⟨.box [.nils 3, .nils 1], 0, 2⟩, ⟨.box [.sl 0 0, .int .i64 (s.1), .int .i64 (s.2.1)], 0, 2⟩, ⟨.box [.sl 5 0, .sl 6 0], 0, 2⟩, ⟨.row ⟨.word, s.2.2.1⟩, 0, 2⟩, ⟨.row ⟨.word, p.2.1⟩, 0, 2⟩, ⟨.row ⟨.bool, p.2.2⟩, 0, 2⟩])
def spec_DrawLoadCells_L0_so (p : List Int × List GWord × List Bool) (t : List GWord) : List V × Heap Row := ([.c (.ptr 1 0), .c (.ptr 2 0), .c (.sl 3 0)], [⟨.row ⟨.byte, p.1⟩, 0, 1⟩, ⟨.box [.nils 3, .nils 1], 0, 2⟩, ⟨.box [.sl 4 0, .sl 5 0], 0, 2⟩, ⟨.row ⟨.word, t⟩, 0, 2⟩, ⟨.row ⟨.word, p.2.1⟩, 0, 2⟩, ⟨.row ⟨.bool, p.2.2⟩, 0, 2⟩])
def spec_DrawLoadCells_L0_D : List V → Heap Row → Option ((List Int × List GWord × List Bool) × (Int × Int × List GWord × Int))
  | [.c (.ptr 1 0), .c (.ptr 2 0), .c (.ptr 3 0), .c (.sl 4 0), .c (.int .i64 v1)], [⟨.row ⟨.byte, v2⟩, 0, 1⟩, ⟨.box [.nils 3, .nils 1], 0, 2⟩, ⟨.box [.sl 0 0, .int .i64 v3, .int .i64 v4], 0, 2⟩, ⟨.box [.sl 5 0, .sl 6 0], 0, 2⟩, ⟨.row ⟨.word, v5⟩, 0, 2⟩, ⟨.row ⟨.word, v6⟩, 0, 2⟩, ⟨.row ⟨.bool, v7⟩, 0, 2⟩] => some ((v2, v6, v7), (v3, v4, v5, v1))
  | _, _ => none
theorem spec_DrawLoadCells_L0_D_ok (vs : List V) (L : Heap Row) (p : List Int × List GWord × List Bool) (s : Int × Int × List GWord × Int) (h : spec_DrawLoadCells_L0_D vs L = some (p, s)) : spec_DrawLoadCells_L0_st p s = (vs, L) := by
  unfold spec_DrawLoadCells_L0_D at h
  split at h
  · simp at h; obtain ⟨rfl, rfl⟩ := h; rfl
  · simp at h
noncomputable def spec_DrawLoadCells_L0_H : LoopH Row := loopX [2, 4, 5, 6, 7] [2, 5, 6] spec_DrawLoadCells_L0_D (fun p => spec_DrawLoadCells_L0_step (p.1) (p.2.1) (p.2.2)) spec_DrawLoadCells_L0_so
theorem spec_DrawLoadCells_L0_nf (p : List Int × List GWord × List Bool) (s : Int × Int × List GWord × Int) (ρ : Type) (again Kx Kr : List V → Heap Row → Option ρ) : evRound rowU (envOf 19 1 [(108, spec_l1New_C), (110, spec_l1Below_C), (111, spec_l3Draw_C), (109, spec_l8Draw_C)] [(0, spec_DrawLoadCells_L0_H)]) 0 spec_DrawLoadCells_L0_H (loopC 19 0) again (spec_DrawLoadCells_L0_st p s).1 (spec_DrawLoadCells_L0_st p s).2 Kx Kr = spec_DrawLoadCells_L0_K (p.1) (p.2.1) (p.2.2) (s.1) (s.2.1) (s.2.2.1) (s.2.2.2) (fun s => again (spec_DrawLoadCells_L0_st p s).1 (spec_DrawLoadCells_L0_st p s).2) (fun t => Kx (spec_DrawLoadCells_L0_so p t).1 (spec_DrawLoadCells_L0_so p t).2) (fun _ => none) := by kernel_rfl
theorem spec_DrawLoadCells_L0_ok (hb : LoopsOk Try.prog rowU (envOf 19 1 [(108, spec_l1New_C), (110, spec_l1Below_C), (111, spec_l3Draw_C), (109, spec_l8Draw_C)] [(0, spec_DrawLoadCells_L0_H)]) (loopAt (codeP 19) 0)) : LoopOk Try.prog rowU (envOf 19 1 [(108, spec_l1New_C), (110, spec_l1Below_C), (111, spec_l3Draw_C), (109, spec_l8Draw_C)] [(0, spec_DrawLoadCells_L0_H)]) 0 (loopAt (codeP 19) 0) spec_DrawLoadCells_L0_H :=
  loopX_ok tagOk mixed envNl (envT (TabOk.cons spec_l1New_ok (TabOk.cons spec_l1Below_ok (TabOk.cons spec_l3Draw_ok (TabOk.cons spec_l8Draw_ok TabOk.nil))))) hb spec_DrawLoadCells_L0_st spec_DrawLoadCells_L0_D_ok fun p s ρ A Kx Kr => (spec_DrawLoadCells_L0_nf p s ρ A Kx Kr).trans (spec_DrawLoadCells_L0_bind (p.1) (p.2.1) (p.2.2) s _ _ _)
noncomputable def spec_DrawLoadCells_K (x0 : List Int) {ρ : Type} (K : GMemory × List GWord → Option ρ) : Option ρ :=
  Option.bind (spec_l1New x0) fun r1 =>
  Option.bind (spec_l8Draw (⟨x0, r1.i, r1.h⟩ : GL1Cur)) fun r2 =>
  Option.bind (runX (spec_DrawLoadCells_L0_step x0 r2.1.words r2.1.gone) (r2.2.1, r2.2.2, [], 0)) fun t5 =>
  K (r2.1, t5)
noncomputable def spec_DrawLoadCells (x0 : List Int) : Option (GMemory × List GWord) := spec_DrawLoadCells_K x0 some
theorem spec_DrawLoadCells_bind (x0 : List Int) {ρ : Type} (K : GMemory × List GWord → Option ρ) : spec_DrawLoadCells_K x0 K = (spec_DrawLoadCells x0).bind K := by
  simp only [spec_DrawLoadCells, spec_DrawLoadCells_K, Option.bind_assoc, Option.bind_some, Option.bind_none, cond_bind, sumK_bind]
noncomputable def spec_DrawLoadCells_E : Env Row := envN false 19 1 [(108, spec_l1New_C), (110, spec_l1Below_C), (111, spec_l3Draw_C), (109, spec_l8Draw_C)] [(0, spec_DrawLoadCells_L0_H)]
theorem spec_DrawLoadCells_nf (x0 : List Int) (ρ : Type) (K : V → Heap Row → Option ρ) : evBody rowU spec_DrawLoadCells_E (bodyC 19) [.c (.sl 0 0)] [⟨.row ⟨.byte, x0⟩, 0, 1⟩] K = spec_DrawLoadCells_K x0 (fun r => K (.t [(true, [.sl 1 0, .sl 2 0]), (false, [.sl 3 0])]) [⟨.row ⟨.byte, x0⟩, 0, 1⟩, ⟨.row ⟨.word, r.1.words⟩, 0, 2⟩, ⟨.row ⟨.bool, r.1.gone⟩, 0, 2⟩, ⟨.row ⟨.word, r.2⟩, 0, 2⟩]) := by kernel_rfl
def spec_DrawLoadCells_D : List V → Heap Row → Option (List Int)
  | [.c (.sl 0 0)], [⟨.row ⟨.byte, v1⟩, 0, 1⟩] => some (v1)
  | _, _ => none
theorem spec_DrawLoadCells_D_ok {vs : List V} {W : Heap Row} {a : List Int} (h : spec_DrawLoadCells_D vs W = some a) : vs = [.c (.sl 0 0)] ∧ W = [⟨.row ⟨.byte, a⟩, 0, 1⟩] := by
  unfold spec_DrawLoadCells_D at h
  split at h
  · simp at h; subst h; exact ⟨rfl, rfl⟩
  · simp at h
noncomputable def spec_DrawLoadCells_C : Callee Row := ⟨[(false, 0)], fun _ vs W K => (spec_DrawLoadCells_D vs W).bind fun a => (spec_DrawLoadCells a).bind fun r => K (.t [(true, [.sl 1 0, .sl 2 0]), (false, [.sl 3 0])]) [⟨.row ⟨.byte, a⟩, 0, 1⟩, ⟨.row ⟨.word, r.1.words⟩, 0, 2⟩, ⟨.row ⟨.bool, r.1.gone⟩, 0, 2⟩, ⟨.row ⟨.word, r.2⟩, 0, 2⟩]⟩
theorem spec_DrawLoadCells_ok : CalleeOk Try.prog rowU 19 spec_DrawLoadCells_C := by
  refine calleeP (nl := false) (m0 := 1) (T := [(108, spec_l1New_C), (110, spec_l1Below_C), (111, spec_l3Draw_C), (109, spec_l8Draw_C)]) (H := [(0, spec_DrawLoadCells_L0_H)]) (TabOk.cons spec_l1New_ok (TabOk.cons spec_l1Below_ok (TabOk.cons spec_l3Draw_ok (TabOk.cons spec_l8Draw_ok TabOk.nil)))) (by kernel_rfl) (by kernel_rfl) (fun p hp hb => by
    simp only [List.mem_cons, List.not_mem_nil, or_false] at hp
    subst hp
    exact spec_DrawLoadCells_L0_ok hb) fun ρ vs W K r h => ?_
  obtain ⟨a, ha, h1⟩ := Option.bind_eq_some_iff.1 h
  clear h
  obtain ⟨rfl, rfl⟩ := spec_DrawLoadCells_D_ok ha
  obtain ⟨q, hq, h2⟩ := Option.bind_eq_some_iff.1 h1
  exact ⟨_, _, h2, (spec_DrawLoadCells_nf a _ _).trans ((spec_DrawLoadCells_bind a _).trans (by rw [hq]; rfl))⟩
/-! loop.example/g00249/spec.DrawStoreCells -/
noncomputable def spec_DrawStoreCells_L0_K (l0 : List Int) (l4 : List GWord) (l5 : List Bool) (n1 : Int) (n2 : Int) (l3 : List GWord) (n6 : Int) {ρ : Type} (A : Int × Int × List GWord × Int → Option ρ) (X : List GWord → Option ρ) (R : Unit → Option ρ) : Option ρ :=
  Option.bind (spec_l1Below (⟨l0, n1, n2⟩ : GL1Cur) 4) fun r3 =>
  cond (decide (n6 < r3.1))
    (Option.bind (spec_l3Draw (⟨l0, r3.2.1, r3.2.2⟩ : GL1Cur)) fun r4 =>
    cond (decide ((((l3.length) + 1) * 48) ≤ 140737488355328)) (A (r4.2.1, r4.2.2, l3 ++ [r4.1], w64 (n6 + 1))) none)
    (X l3)
noncomputable def spec_DrawStoreCells_L0_step (l0 : List Int) (l4 : List GWord) (l5 : List Bool) (s : Int × Int × List GWord × Int) : Option (Rnd (Int × Int × List GWord × Int) (List GWord) (Unit)) := spec_DrawStoreCells_L0_K l0 l4 l5 (s.1) (s.2.1) (s.2.2.1) (s.2.2.2) (fun s => some (.again s)) (fun t => some (.exit t)) (fun k => some (.ret k))
theorem spec_DrawStoreCells_L0_bind (l0 : List Int) (l4 : List GWord) (l5 : List Bool) (s : Int × Int × List GWord × Int) {ρ : Type} (A : Int × Int × List GWord × Int → Option ρ) (X : List GWord → Option ρ) (R : Unit → Option ρ) : spec_DrawStoreCells_L0_K l0 l4 l5 (s.1) (s.2.1) (s.2.2.1) (s.2.2.2) A X R = (spec_DrawStoreCells_L0_step l0 l4 l5 s).bind (rndE A X R) := by
  simp only [spec_DrawStoreCells_L0_step, spec_DrawStoreCells_L0_K, Option.bind_assoc, Option.bind_some, Option.bind_none, cond_bind, sumK_bind, rndE_again, rndE_exit, rndE_ret]
def spec_DrawStoreCells_L0_st (p : List Int × List GWord × List Bool) (s : Int × Int × List GWord × Int) : List V × Heap Row := ([.c (.ptr 1 0), .c (.ptr 2 0), .c (.ptr 3 0), .c (.sl 4 0), .c (.int .i64 (s.2.2.2))], [⟨.row ⟨.byte, p.1⟩, 0, 1⟩, ⟨.box [.nils 3, .nils 1], 0, 2⟩, ⟨.box [.sl 0 0, .int .i64 (s.1), .int .i64 (s.2.1)], 0, 2⟩, ⟨.box [.sl 5 0, .sl 6 0], 0, 2⟩, ⟨.row ⟨.word, s.2.2.1⟩, 0, 2⟩, ⟨.row ⟨.word, p.2.1⟩, 0, 2⟩, ⟨.row ⟨.bool, p.2.2⟩, 0, 2⟩])
def spec_DrawStoreCells_L0_so (p : List Int × List GWord × List Bool) (t : List GWord) : List V × Heap Row := ([.c (.ptr 1 0), .c (.ptr 2 0), .c (.sl 3 0)], [⟨.row ⟨.byte, p.1⟩, 0, 1⟩, ⟨.box [.nils 3, .nils 1], 0, 2⟩, ⟨.box [.sl 4 0, .sl 5 0], 0, 2⟩, ⟨.row ⟨.word, t⟩, 0, 2⟩, ⟨.row ⟨.word, p.2.1⟩, 0, 2⟩, ⟨.row ⟨.bool, p.2.2⟩, 0, 2⟩])
def spec_DrawStoreCells_L0_D : List V → Heap Row → Option ((List Int × List GWord × List Bool) × (Int × Int × List GWord × Int))
  | [.c (.ptr 1 0), .c (.ptr 2 0), .c (.ptr 3 0), .c (.sl 4 0), .c (.int .i64 v1)], [⟨.row ⟨.byte, v2⟩, 0, 1⟩, ⟨.box [.nils 3, .nils 1], 0, 2⟩, ⟨.box [.sl 0 0, .int .i64 v3, .int .i64 v4], 0, 2⟩, ⟨.box [.sl 5 0, .sl 6 0], 0, 2⟩, ⟨.row ⟨.word, v5⟩, 0, 2⟩, ⟨.row ⟨.word, v6⟩, 0, 2⟩, ⟨.row ⟨.bool, v7⟩, 0, 2⟩] => some ((v2, v6, v7), (v3, v4, v5, v1))
  | _, _ => none
theorem spec_DrawStoreCells_L0_D_ok (vs : List V) (L : Heap Row) (p : List Int × List GWord × List Bool) (s : Int × Int × List GWord × Int) (h : spec_DrawStoreCells_L0_D vs L = some (p, s)) : spec_DrawStoreCells_L0_st p s = (vs, L) := by
  unfold spec_DrawStoreCells_L0_D at h
  split at h
  · simp at h; obtain ⟨rfl, rfl⟩ := h; rfl
  · simp at h
noncomputable def spec_DrawStoreCells_L0_H : LoopH Row := loopX [2, 4, 5, 6, 7] [2, 5, 6] spec_DrawStoreCells_L0_D (fun p => spec_DrawStoreCells_L0_step (p.1) (p.2.1) (p.2.2)) spec_DrawStoreCells_L0_so
theorem spec_DrawStoreCells_L0_nf (p : List Int × List GWord × List Bool) (s : Int × Int × List GWord × Int) (ρ : Type) (again Kx Kr : List V → Heap Row → Option ρ) : evRound rowU (envOf 20 1 [(108, spec_l1New_C), (110, spec_l1Below_C), (111, spec_l3Draw_C), (109, spec_l8Draw_C)] [(0, spec_DrawStoreCells_L0_H)]) 0 spec_DrawStoreCells_L0_H (loopC 20 0) again (spec_DrawStoreCells_L0_st p s).1 (spec_DrawStoreCells_L0_st p s).2 Kx Kr = spec_DrawStoreCells_L0_K (p.1) (p.2.1) (p.2.2) (s.1) (s.2.1) (s.2.2.1) (s.2.2.2) (fun s => again (spec_DrawStoreCells_L0_st p s).1 (spec_DrawStoreCells_L0_st p s).2) (fun t => Kx (spec_DrawStoreCells_L0_so p t).1 (spec_DrawStoreCells_L0_so p t).2) (fun _ => none) := by kernel_rfl
theorem spec_DrawStoreCells_L0_ok (hb : LoopsOk Try.prog rowU (envOf 20 1 [(108, spec_l1New_C), (110, spec_l1Below_C), (111, spec_l3Draw_C), (109, spec_l8Draw_C)] [(0, spec_DrawStoreCells_L0_H)]) (loopAt (codeP 20) 0)) : LoopOk Try.prog rowU (envOf 20 1 [(108, spec_l1New_C), (110, spec_l1Below_C), (111, spec_l3Draw_C), (109, spec_l8Draw_C)] [(0, spec_DrawStoreCells_L0_H)]) 0 (loopAt (codeP 20) 0) spec_DrawStoreCells_L0_H :=
  loopX_ok tagOk mixed envNl (envT (TabOk.cons spec_l1New_ok (TabOk.cons spec_l1Below_ok (TabOk.cons spec_l3Draw_ok (TabOk.cons spec_l8Draw_ok TabOk.nil))))) hb spec_DrawStoreCells_L0_st spec_DrawStoreCells_L0_D_ok fun p s ρ A Kx Kr => (spec_DrawStoreCells_L0_nf p s ρ A Kx Kr).trans (spec_DrawStoreCells_L0_bind (p.1) (p.2.1) (p.2.2) s _ _ _)
noncomputable def spec_DrawStoreCells_K (x0 : List Int) {ρ : Type} (K : GMemory × List GWord → Option ρ) : Option ρ :=
  Option.bind (spec_l1New x0) fun r1 =>
  Option.bind (spec_l8Draw (⟨x0, r1.i, r1.h⟩ : GL1Cur)) fun r2 =>
  Option.bind (runX (spec_DrawStoreCells_L0_step x0 r2.1.words r2.1.gone) (r2.2.1, r2.2.2, [], 0)) fun t5 =>
  K (r2.1, t5)
noncomputable def spec_DrawStoreCells (x0 : List Int) : Option (GMemory × List GWord) := spec_DrawStoreCells_K x0 some
theorem spec_DrawStoreCells_bind (x0 : List Int) {ρ : Type} (K : GMemory × List GWord → Option ρ) : spec_DrawStoreCells_K x0 K = (spec_DrawStoreCells x0).bind K := by
  simp only [spec_DrawStoreCells, spec_DrawStoreCells_K, Option.bind_assoc, Option.bind_some, Option.bind_none, cond_bind, sumK_bind]
noncomputable def spec_DrawStoreCells_E : Env Row := envN false 20 1 [(108, spec_l1New_C), (110, spec_l1Below_C), (111, spec_l3Draw_C), (109, spec_l8Draw_C)] [(0, spec_DrawStoreCells_L0_H)]
theorem spec_DrawStoreCells_nf (x0 : List Int) (ρ : Type) (K : V → Heap Row → Option ρ) : evBody rowU spec_DrawStoreCells_E (bodyC 20) [.c (.sl 0 0)] [⟨.row ⟨.byte, x0⟩, 0, 1⟩] K = spec_DrawStoreCells_K x0 (fun r => K (.t [(true, [.sl 1 0, .sl 2 0]), (false, [.sl 3 0])]) [⟨.row ⟨.byte, x0⟩, 0, 1⟩, ⟨.row ⟨.word, r.1.words⟩, 0, 2⟩, ⟨.row ⟨.bool, r.1.gone⟩, 0, 2⟩, ⟨.row ⟨.word, r.2⟩, 0, 2⟩]) := by kernel_rfl
def spec_DrawStoreCells_D : List V → Heap Row → Option (List Int)
  | [.c (.sl 0 0)], [⟨.row ⟨.byte, v1⟩, 0, 1⟩] => some (v1)
  | _, _ => none
theorem spec_DrawStoreCells_D_ok {vs : List V} {W : Heap Row} {a : List Int} (h : spec_DrawStoreCells_D vs W = some a) : vs = [.c (.sl 0 0)] ∧ W = [⟨.row ⟨.byte, a⟩, 0, 1⟩] := by
  unfold spec_DrawStoreCells_D at h
  split at h
  · simp at h; subst h; exact ⟨rfl, rfl⟩
  · simp at h
noncomputable def spec_DrawStoreCells_C : Callee Row := ⟨[(false, 0)], fun _ vs W K => (spec_DrawStoreCells_D vs W).bind fun a => (spec_DrawStoreCells a).bind fun r => K (.t [(true, [.sl 1 0, .sl 2 0]), (false, [.sl 3 0])]) [⟨.row ⟨.byte, a⟩, 0, 1⟩, ⟨.row ⟨.word, r.1.words⟩, 0, 2⟩, ⟨.row ⟨.bool, r.1.gone⟩, 0, 2⟩, ⟨.row ⟨.word, r.2⟩, 0, 2⟩]⟩
theorem spec_DrawStoreCells_ok : CalleeOk Try.prog rowU 20 spec_DrawStoreCells_C := by
  refine calleeP (nl := false) (m0 := 1) (T := [(108, spec_l1New_C), (110, spec_l1Below_C), (111, spec_l3Draw_C), (109, spec_l8Draw_C)]) (H := [(0, spec_DrawStoreCells_L0_H)]) (TabOk.cons spec_l1New_ok (TabOk.cons spec_l1Below_ok (TabOk.cons spec_l3Draw_ok (TabOk.cons spec_l8Draw_ok TabOk.nil)))) (by kernel_rfl) (by kernel_rfl) (fun p hp hb => by
    simp only [List.mem_cons, List.not_mem_nil, or_false] at hp
    subst hp
    exact spec_DrawStoreCells_L0_ok hb) fun ρ vs W K r h => ?_
  obtain ⟨a, ha, h1⟩ := Option.bind_eq_some_iff.1 h
  clear h
  obtain ⟨rfl, rfl⟩ := spec_DrawStoreCells_D_ok ha
  obtain ⟨q, hq, h2⟩ := Option.bind_eq_some_iff.1 h1
  exact ⟨_, _, h2, (spec_DrawStoreCells_nf a _ _).trans ((spec_DrawStoreCells_bind a _).trans (by rw [hq]; rfl))⟩
/-! loop.example/g00249/spec.DrawCanSeal -/
noncomputable def spec_DrawCanSeal_L0_K (l0 : List Int) (l4 : List GWord) (l5 : List Bool) (n1 : Int) (n2 : Int) (l3 : List GWord) (n6 : Int) {ρ : Type} (A : Int × Int × List GWord × Int → Option ρ) (X : List GWord → Option ρ) (R : Unit → Option ρ) : Option ρ :=
  Option.bind (spec_l1Below (⟨l0, n1, n2⟩ : GL1Cur) 4) fun r3 =>
  cond (decide (n6 < r3.1))
    (Option.bind (spec_l3Draw (⟨l0, r3.2.1, r3.2.2⟩ : GL1Cur)) fun r4 =>
    cond (decide ((((l3.length) + 1) * 48) ≤ 140737488355328)) (A (r4.2.1, r4.2.2, l3 ++ [r4.1], w64 (n6 + 1))) none)
    (X l3)
noncomputable def spec_DrawCanSeal_L0_step (l0 : List Int) (l4 : List GWord) (l5 : List Bool) (s : Int × Int × List GWord × Int) : Option (Rnd (Int × Int × List GWord × Int) (List GWord) (Unit)) := spec_DrawCanSeal_L0_K l0 l4 l5 (s.1) (s.2.1) (s.2.2.1) (s.2.2.2) (fun s => some (.again s)) (fun t => some (.exit t)) (fun k => some (.ret k))
theorem spec_DrawCanSeal_L0_bind (l0 : List Int) (l4 : List GWord) (l5 : List Bool) (s : Int × Int × List GWord × Int) {ρ : Type} (A : Int × Int × List GWord × Int → Option ρ) (X : List GWord → Option ρ) (R : Unit → Option ρ) : spec_DrawCanSeal_L0_K l0 l4 l5 (s.1) (s.2.1) (s.2.2.1) (s.2.2.2) A X R = (spec_DrawCanSeal_L0_step l0 l4 l5 s).bind (rndE A X R) := by
  simp only [spec_DrawCanSeal_L0_step, spec_DrawCanSeal_L0_K, Option.bind_assoc, Option.bind_some, Option.bind_none, cond_bind, sumK_bind, rndE_again, rndE_exit, rndE_ret]
def spec_DrawCanSeal_L0_st (p : List Int × List GWord × List Bool) (s : Int × Int × List GWord × Int) : List V × Heap Row := ([.c (.ptr 1 0), .c (.ptr 2 0), .c (.ptr 3 0), .c (.sl 4 0), .c (.int .i64 (s.2.2.2))], [⟨.row ⟨.byte, p.1⟩, 0, 1⟩, ⟨.box [.nils 3, .nils 1], 0, 2⟩, ⟨.box [.sl 0 0, .int .i64 (s.1), .int .i64 (s.2.1)], 0, 2⟩, ⟨.box [.sl 5 0, .sl 6 0], 0, 2⟩, ⟨.row ⟨.word, s.2.2.1⟩, 0, 2⟩, ⟨.row ⟨.word, p.2.1⟩, 0, 2⟩, ⟨.row ⟨.bool, p.2.2⟩, 0, 2⟩])
def spec_DrawCanSeal_L0_so (p : List Int × List GWord × List Bool) (t : List GWord) : List V × Heap Row := ([.c (.ptr 1 0), .c (.ptr 2 0), .c (.sl 3 0)], [⟨.row ⟨.byte, p.1⟩, 0, 1⟩, ⟨.box [.nils 3, .nils 1], 0, 2⟩, ⟨.box [.sl 4 0, .sl 5 0], 0, 2⟩, ⟨.row ⟨.word, t⟩, 0, 2⟩, ⟨.row ⟨.word, p.2.1⟩, 0, 2⟩, ⟨.row ⟨.bool, p.2.2⟩, 0, 2⟩])
def spec_DrawCanSeal_L0_D : List V → Heap Row → Option ((List Int × List GWord × List Bool) × (Int × Int × List GWord × Int))
  | [.c (.ptr 1 0), .c (.ptr 2 0), .c (.ptr 3 0), .c (.sl 4 0), .c (.int .i64 v1)], [⟨.row ⟨.byte, v2⟩, 0, 1⟩, ⟨.box [.nils 3, .nils 1], 0, 2⟩, ⟨.box [.sl 0 0, .int .i64 v3, .int .i64 v4], 0, 2⟩, ⟨.box [.sl 5 0, .sl 6 0], 0, 2⟩, ⟨.row ⟨.word, v5⟩, 0, 2⟩, ⟨.row ⟨.word, v6⟩, 0, 2⟩, ⟨.row ⟨.bool, v7⟩, 0, 2⟩] => some ((v2, v6, v7), (v3, v4, v5, v1))
  | _, _ => none
theorem spec_DrawCanSeal_L0_D_ok (vs : List V) (L : Heap Row) (p : List Int × List GWord × List Bool) (s : Int × Int × List GWord × Int) (h : spec_DrawCanSeal_L0_D vs L = some (p, s)) : spec_DrawCanSeal_L0_st p s = (vs, L) := by
  unfold spec_DrawCanSeal_L0_D at h
  split at h
  · simp at h; obtain ⟨rfl, rfl⟩ := h; rfl
  · simp at h
noncomputable def spec_DrawCanSeal_L0_H : LoopH Row := loopX [2, 4, 5, 6, 7] [2, 5, 6] spec_DrawCanSeal_L0_D (fun p => spec_DrawCanSeal_L0_step (p.1) (p.2.1) (p.2.2)) spec_DrawCanSeal_L0_so
theorem spec_DrawCanSeal_L0_nf (p : List Int × List GWord × List Bool) (s : Int × Int × List GWord × Int) (ρ : Type) (again Kx Kr : List V → Heap Row → Option ρ) : evRound rowU (envOf 21 1 [(108, spec_l1New_C), (110, spec_l1Below_C), (111, spec_l3Draw_C), (109, spec_l8Draw_C)] [(0, spec_DrawCanSeal_L0_H)]) 0 spec_DrawCanSeal_L0_H (loopC 21 0) again (spec_DrawCanSeal_L0_st p s).1 (spec_DrawCanSeal_L0_st p s).2 Kx Kr = spec_DrawCanSeal_L0_K (p.1) (p.2.1) (p.2.2) (s.1) (s.2.1) (s.2.2.1) (s.2.2.2) (fun s => again (spec_DrawCanSeal_L0_st p s).1 (spec_DrawCanSeal_L0_st p s).2) (fun t => Kx (spec_DrawCanSeal_L0_so p t).1 (spec_DrawCanSeal_L0_so p t).2) (fun _ => none) := by kernel_rfl
theorem spec_DrawCanSeal_L0_ok (hb : LoopsOk Try.prog rowU (envOf 21 1 [(108, spec_l1New_C), (110, spec_l1Below_C), (111, spec_l3Draw_C), (109, spec_l8Draw_C)] [(0, spec_DrawCanSeal_L0_H)]) (loopAt (codeP 21) 0)) : LoopOk Try.prog rowU (envOf 21 1 [(108, spec_l1New_C), (110, spec_l1Below_C), (111, spec_l3Draw_C), (109, spec_l8Draw_C)] [(0, spec_DrawCanSeal_L0_H)]) 0 (loopAt (codeP 21) 0) spec_DrawCanSeal_L0_H :=
  loopX_ok tagOk mixed envNl (envT (TabOk.cons spec_l1New_ok (TabOk.cons spec_l1Below_ok (TabOk.cons spec_l3Draw_ok (TabOk.cons spec_l8Draw_ok TabOk.nil))))) hb spec_DrawCanSeal_L0_st spec_DrawCanSeal_L0_D_ok fun p s ρ A Kx Kr => (spec_DrawCanSeal_L0_nf p s ρ A Kx Kr).trans (spec_DrawCanSeal_L0_bind (p.1) (p.2.1) (p.2.2) s _ _ _)
noncomputable def spec_DrawCanSeal_K (x0 : List Int) {ρ : Type} (K : GMemory × List GWord → Option ρ) : Option ρ :=
  Option.bind (spec_l1New x0) fun r1 =>
  Option.bind (spec_l8Draw (⟨x0, r1.i, r1.h⟩ : GL1Cur)) fun r2 =>
  Option.bind (runX (spec_DrawCanSeal_L0_step x0 r2.1.words r2.1.gone) (r2.2.1, r2.2.2, [], 0)) fun t5 =>
  K (r2.1, t5)
noncomputable def spec_DrawCanSeal (x0 : List Int) : Option (GMemory × List GWord) := spec_DrawCanSeal_K x0 some
theorem spec_DrawCanSeal_bind (x0 : List Int) {ρ : Type} (K : GMemory × List GWord → Option ρ) : spec_DrawCanSeal_K x0 K = (spec_DrawCanSeal x0).bind K := by
  simp only [spec_DrawCanSeal, spec_DrawCanSeal_K, Option.bind_assoc, Option.bind_some, Option.bind_none, cond_bind, sumK_bind]
noncomputable def spec_DrawCanSeal_E : Env Row := envN false 21 1 [(108, spec_l1New_C), (110, spec_l1Below_C), (111, spec_l3Draw_C), (109, spec_l8Draw_C)] [(0, spec_DrawCanSeal_L0_H)]
theorem spec_DrawCanSeal_nf (x0 : List Int) (ρ : Type) (K : V → Heap Row → Option ρ) : evBody rowU spec_DrawCanSeal_E (bodyC 21) [.c (.sl 0 0)] [⟨.row ⟨.byte, x0⟩, 0, 1⟩] K = spec_DrawCanSeal_K x0 (fun r => K (.t [(true, [.sl 1 0, .sl 2 0]), (false, [.sl 3 0])]) [⟨.row ⟨.byte, x0⟩, 0, 1⟩, ⟨.row ⟨.word, r.1.words⟩, 0, 2⟩, ⟨.row ⟨.bool, r.1.gone⟩, 0, 2⟩, ⟨.row ⟨.word, r.2⟩, 0, 2⟩]) := by kernel_rfl
def spec_DrawCanSeal_D : List V → Heap Row → Option (List Int)
  | [.c (.sl 0 0)], [⟨.row ⟨.byte, v1⟩, 0, 1⟩] => some (v1)
  | _, _ => none
theorem spec_DrawCanSeal_D_ok {vs : List V} {W : Heap Row} {a : List Int} (h : spec_DrawCanSeal_D vs W = some a) : vs = [.c (.sl 0 0)] ∧ W = [⟨.row ⟨.byte, a⟩, 0, 1⟩] := by
  unfold spec_DrawCanSeal_D at h
  split at h
  · simp at h; subst h; exact ⟨rfl, rfl⟩
  · simp at h
noncomputable def spec_DrawCanSeal_C : Callee Row := ⟨[(false, 0)], fun _ vs W K => (spec_DrawCanSeal_D vs W).bind fun a => (spec_DrawCanSeal a).bind fun r => K (.t [(true, [.sl 1 0, .sl 2 0]), (false, [.sl 3 0])]) [⟨.row ⟨.byte, a⟩, 0, 1⟩, ⟨.row ⟨.word, r.1.words⟩, 0, 2⟩, ⟨.row ⟨.bool, r.1.gone⟩, 0, 2⟩, ⟨.row ⟨.word, r.2⟩, 0, 2⟩]⟩
theorem spec_DrawCanSeal_ok : CalleeOk Try.prog rowU 21 spec_DrawCanSeal_C := by
  refine calleeP (nl := false) (m0 := 1) (T := [(108, spec_l1New_C), (110, spec_l1Below_C), (111, spec_l3Draw_C), (109, spec_l8Draw_C)]) (H := [(0, spec_DrawCanSeal_L0_H)]) (TabOk.cons spec_l1New_ok (TabOk.cons spec_l1Below_ok (TabOk.cons spec_l3Draw_ok (TabOk.cons spec_l8Draw_ok TabOk.nil)))) (by kernel_rfl) (by kernel_rfl) (fun p hp hb => by
    simp only [List.mem_cons, List.not_mem_nil, or_false] at hp
    subst hp
    exact spec_DrawCanSeal_L0_ok hb) fun ρ vs W K r h => ?_
  obtain ⟨a, ha, h1⟩ := Option.bind_eq_some_iff.1 h
  clear h
  obtain ⟨rfl, rfl⟩ := spec_DrawCanSeal_D_ok ha
  obtain ⟨q, hq, h2⟩ := Option.bind_eq_some_iff.1 h1
  exact ⟨_, _, h2, (spec_DrawCanSeal_nf a _ _).trans ((spec_DrawCanSeal_bind a _).trans (by rw [hq]; rfl))⟩
/-! loop.example/g00249/spec.WordOk -/
noncomputable def spec_WordOk_K (x0 : GWord) {ρ : Type} (K : Bool → Option ρ) : Option ρ :=
  Option.bind (spec_l1In x0.n 0 65535) fun r1 =>
  cond (r1 == true)
    (cond (x0.is == true)
      (Option.bind (spec_KeyOk x0.key) fun r2 =>
      cond (r2 == false)
        (cond ((!x0.is) == true)
          (K ((x0.key.base == 0) && ((x0.key.top == 0) && ((x0.key.perms == 0) && ((x0.key.seal_ == 0) && true)))))
          (K false))
        (K true))
      (cond ((!x0.is) == true)
        (K ((x0.key.base == 0) && ((x0.key.top == 0) && ((x0.key.perms == 0) && ((x0.key.seal_ == 0) && true)))))
        (K false)))
    (K false)
noncomputable def spec_WordOk (x0 : GWord) : Option (Bool) := spec_WordOk_K x0 some
theorem spec_WordOk_bind (x0 : GWord) {ρ : Type} (K : Bool → Option ρ) : spec_WordOk_K x0 K = (spec_WordOk x0).bind K := by
  simp only [spec_WordOk, spec_WordOk_K, Option.bind_assoc, Option.bind_some, Option.bind_none, cond_bind, sumK_bind]
noncomputable def spec_WordOk_E : Env Row := envN false 117 0 [(160, spec_l1In_C), (197, spec_KeyOk_C)] []
theorem spec_WordOk_nf (x0 : GWord) (ρ : Type) (K : V → Heap Row → Option ρ) : evBody rowU spec_WordOk_E (bodyC 117) [.a [.int .i64 x0.n, .bool x0.is, .int .i64 x0.key.base, .int .i64 x0.key.top, .int .i64 x0.key.perms, .int .i64 x0.key.seal_]] [] K = spec_WordOk_K x0 (fun r => K (.c (.bool r)) []) := by kernel_rfl
def spec_WordOk_D : List V → Heap Row → Option (GWord)
  | [.a (.int .i64 v1 :: .bool v2 :: .int .i64 v3 :: .int .i64 v4 :: .int .i64 v5 :: .int .i64 v6 :: [])], [] => some (⟨v1, v2, ⟨v3, v4, v5, v6⟩⟩)
  | _, _ => none
theorem spec_WordOk_D_ok {vs : List V} {W : Heap Row} {a : GWord} (h : spec_WordOk_D vs W = some a) : vs = [.a [.int .i64 (a).n, .bool (a).is, .int .i64 (a).key.base, .int .i64 (a).key.top, .int .i64 (a).key.perms, .int .i64 (a).key.seal_]] ∧ W = [] := by
  unfold spec_WordOk_D at h
  split at h
  · simp at h; subst h; exact ⟨rfl, rfl⟩
  · simp at h
noncomputable def spec_WordOk_C : Callee Row := ⟨[], fun _ vs W K => (spec_WordOk_D vs W).bind fun a => (spec_WordOk a).bind fun r => K (.c (.bool r)) []⟩
theorem spec_WordOk_ok : CalleeOk Try.prog rowU 117 spec_WordOk_C := by
  refine calleeP (nl := false) (m0 := 0) (T := [(160, spec_l1In_C), (197, spec_KeyOk_C)]) (H := []) (TabOk.cons spec_l1In_ok (TabOk.cons spec_KeyOk_ok TabOk.nil)) (by kernel_rfl) (by kernel_rfl) (fun p hp => nomatch hp) fun ρ vs W K r h => ?_
  obtain ⟨a, ha, h1⟩ := Option.bind_eq_some_iff.1 h
  clear h
  obtain ⟨rfl, rfl⟩ := spec_WordOk_D_ok ha
  obtain ⟨q, hq, h2⟩ := Option.bind_eq_some_iff.1 h1
  exact ⟨_, _, h2, (spec_WordOk_nf a _ _).trans ((spec_WordOk_bind a _).trans (by rw [hq]; rfl))⟩
/-! loop.example/g00249/spec.MemoryOk -/
noncomputable def spec_MemoryOk_L0_K (l0 : List GWord) (l1 : List Bool) (n2 : Int) {ρ : Type} (A : Int → Option ρ) (X : Unit → Option ρ) (R : Unit → Option ρ) : Option ρ :=
  cond (decide (n2 < 24))
    (cond (decide (0 ≤ n2)) (cond (decide (n2 < (((l0.length : Nat) : Int)))) (Option.bind (spec_WordOk (List.getD l0 (n2.toNat) (default))) fun r1 =>
    cond (!r1)
      (R ())
      (A (w64 (n2 + 1)))) none) none)
    (X ())
noncomputable def spec_MemoryOk_L0_step (l0 : List GWord) (l1 : List Bool) (s : Int) : Option (Rnd (Int) (Unit) (Unit)) := spec_MemoryOk_L0_K l0 l1 s (fun s => some (.again s)) (fun t => some (.exit t)) (fun k => some (.ret k))
theorem spec_MemoryOk_L0_bind (l0 : List GWord) (l1 : List Bool) (s : Int) {ρ : Type} (A : Int → Option ρ) (X : Unit → Option ρ) (R : Unit → Option ρ) : spec_MemoryOk_L0_K l0 l1 s A X R = (spec_MemoryOk_L0_step l0 l1 s).bind (rndE A X R) := by
  simp only [spec_MemoryOk_L0_step, spec_MemoryOk_L0_K, Option.bind_assoc, Option.bind_some, Option.bind_none, cond_bind, sumK_bind, rndE_again, rndE_exit, rndE_ret]
def spec_MemoryOk_L0_st (p : List GWord × List Bool) (s : Int) : List V × Heap Row := ([.c (.ptr 2 0), .c (.int .i64 (s))], [⟨.row ⟨.word, p.1⟩, 0, 1⟩, ⟨.row ⟨.bool, p.2⟩, 0, 1⟩, ⟨.box [.sl 0 0, .sl 1 0], 0, 2⟩])
def spec_MemoryOk_L0_so (p : List GWord × List Bool) (t : Unit) : List V × Heap Row := ([], [⟨.row ⟨.word, p.1⟩, 0, 1⟩, ⟨.row ⟨.bool, p.2⟩, 0, 1⟩])
def spec_MemoryOk_L0_sr (p : List GWord × List Bool) (k : Unit) : List V × Heap Row := ([.c (.bool false)], [⟨.row ⟨.word, p.1⟩, 0, 1⟩, ⟨.row ⟨.bool, p.2⟩, 0, 1⟩])
def spec_MemoryOk_L0_D : List V → Heap Row → Option ((List GWord × List Bool) × (Int))
  | [.c (.ptr 2 0), .c (.int .i64 v1)], [⟨.row ⟨.word, v2⟩, 0, 1⟩, ⟨.row ⟨.bool, v3⟩, 0, 1⟩, ⟨.box [.sl 0 0, .sl 1 0], 0, 2⟩] => some ((v2, v3), (v1))
  | _, _ => none
theorem spec_MemoryOk_L0_D_ok (vs : List V) (L : Heap Row) (p : List GWord × List Bool) (s : Int) (h : spec_MemoryOk_L0_D vs L = some (p, s)) : spec_MemoryOk_L0_st p s = (vs, L) := by
  unfold spec_MemoryOk_L0_D at h
  split at h
  · simp at h; obtain ⟨rfl, rfl⟩ := h; rfl
  · simp at h
noncomputable def spec_MemoryOk_L0_H : LoopH Row := loopR [1, 3] [] spec_MemoryOk_L0_D (fun p => spec_MemoryOk_L0_step (p.1) (p.2)) spec_MemoryOk_L0_so spec_MemoryOk_L0_sr
theorem spec_MemoryOk_L0_nf (p : List GWord × List Bool) (s : Int) (ρ : Type) (again Kx Kr : List V → Heap Row → Option ρ) : evRound rowU (envOf 116 2 [(117, spec_WordOk_C)] [(0, spec_MemoryOk_L0_H)]) 0 spec_MemoryOk_L0_H (loopC 116 0) again (spec_MemoryOk_L0_st p s).1 (spec_MemoryOk_L0_st p s).2 Kx Kr = spec_MemoryOk_L0_K (p.1) (p.2) s (fun s => again (spec_MemoryOk_L0_st p s).1 (spec_MemoryOk_L0_st p s).2) (fun t => Kx (spec_MemoryOk_L0_so p t).1 (spec_MemoryOk_L0_so p t).2) (fun k => Kr (spec_MemoryOk_L0_sr p k).1 (spec_MemoryOk_L0_sr p k).2) := by kernel_rfl
theorem spec_MemoryOk_L0_ok (hb : LoopsOk Try.prog rowU (envOf 116 2 [(117, spec_WordOk_C)] [(0, spec_MemoryOk_L0_H)]) (loopAt (codeP 116) 0)) : LoopOk Try.prog rowU (envOf 116 2 [(117, spec_WordOk_C)] [(0, spec_MemoryOk_L0_H)]) 0 (loopAt (codeP 116) 0) spec_MemoryOk_L0_H :=
  loopR_ok tagOk mixed envNl (envT (TabOk.cons spec_WordOk_ok TabOk.nil)) hb spec_MemoryOk_L0_st spec_MemoryOk_L0_D_ok fun p s ρ A Kx Kr => (spec_MemoryOk_L0_nf p s ρ A Kx Kr).trans (spec_MemoryOk_L0_bind (p.1) (p.2) s _ _ _)
noncomputable def spec_MemoryOk_K (x0 : GMemory) {ρ : Type} (K : Bool → Option ρ) : Option ρ :=
  cond (((((x0.words.length : Nat) : Int)) != 24) == false)
    (cond ((((x0.gone.length : Nat) : Int)) != 24)
      (K false)
      (Option.bind (runL (spec_MemoryOk_L0_step x0.words x0.gone) 0) fun ot2 => sumK ot2
        (fun t2 => K true)
        (fun k3 => K false)))
    (K false)
noncomputable def spec_MemoryOk (x0 : GMemory) : Option (Bool) := spec_MemoryOk_K x0 some
theorem spec_MemoryOk_bind (x0 : GMemory) {ρ : Type} (K : Bool → Option ρ) : spec_MemoryOk_K x0 K = (spec_MemoryOk x0).bind K := by
  simp only [spec_MemoryOk, spec_MemoryOk_K, Option.bind_assoc, Option.bind_some, Option.bind_none, cond_bind, sumK_bind]
noncomputable def spec_MemoryOk_E : Env Row := envN false 116 2 [(117, spec_WordOk_C)] [(0, spec_MemoryOk_L0_H)]
theorem spec_MemoryOk_nf (x0 : GMemory) (ρ : Type) (K : V → Heap Row → Option ρ) : evBody rowU spec_MemoryOk_E (bodyC 116) [.a [.sl 0 0, .sl 1 0]] [⟨.row ⟨.word, x0.words⟩, 0, 1⟩, ⟨.row ⟨.bool, x0.gone⟩, 0, 1⟩] K = spec_MemoryOk_K x0 (fun r => K (.c (.bool r)) [⟨.row ⟨.word, x0.words⟩, 0, 1⟩, ⟨.row ⟨.bool, x0.gone⟩, 0, 1⟩]) := by kernel_rfl
def spec_MemoryOk_D : List V → Heap Row → Option (GMemory)
  | [.a (.sl 0 0 :: .sl 1 0 :: [])], [⟨.row ⟨.word, v1⟩, 0, 1⟩, ⟨.row ⟨.bool, v2⟩, 0, 1⟩] => some (⟨v1, v2⟩)
  | _, _ => none
theorem spec_MemoryOk_D_ok {vs : List V} {W : Heap Row} {a : GMemory} (h : spec_MemoryOk_D vs W = some a) : vs = [.a [.sl 0 0, .sl 1 0]] ∧ W = [⟨.row ⟨.word, (a).words⟩, 0, 1⟩, ⟨.row ⟨.bool, (a).gone⟩, 0, 1⟩] := by
  unfold spec_MemoryOk_D at h
  split at h
  · simp at h; subst h; exact ⟨rfl, rfl⟩
  · simp at h
noncomputable def spec_MemoryOk_C : Callee Row := ⟨[(false, 0), (false, 0)], fun _ vs W K => (spec_MemoryOk_D vs W).bind fun a => (spec_MemoryOk a).bind fun r => K (.c (.bool r)) [⟨.row ⟨.word, (a).words⟩, 0, 1⟩, ⟨.row ⟨.bool, (a).gone⟩, 0, 1⟩]⟩
theorem spec_MemoryOk_ok : CalleeOk Try.prog rowU 116 spec_MemoryOk_C := by
  refine calleeP (nl := false) (m0 := 2) (T := [(117, spec_WordOk_C)]) (H := [(0, spec_MemoryOk_L0_H)]) (TabOk.cons spec_WordOk_ok TabOk.nil) (by kernel_rfl) (by kernel_rfl) (fun p hp hb => by
    simp only [List.mem_cons, List.not_mem_nil, or_false] at hp
    subst hp
    exact spec_MemoryOk_L0_ok hb) fun ρ vs W K r h => ?_
  obtain ⟨a, ha, h1⟩ := Option.bind_eq_some_iff.1 h
  clear h
  obtain ⟨rfl, rfl⟩ := spec_MemoryOk_D_ok ha
  obtain ⟨q, hq, h2⟩ := Option.bind_eq_some_iff.1 h1
  exact ⟨_, _, h2, (spec_MemoryOk_nf a _ _).trans ((spec_MemoryOk_bind a _).trans (by rw [hq]; rfl))⟩
/-! loop.example/g00249/spec.l21Has -/
noncomputable def spec_l21Has_L0_K (l0 : List GWord) (n1 : Int) (n2 : Int) (n3 : Int) (n4 : Int) (n5 : Int) {ρ : Type} (A : Int → Option ρ) (X : Unit → Option ρ) (R : Unit → Option ρ) : Option ρ :=
  cond (decide (n5 < (((l0.length : Nat) : Int))))
    (cond (decide (0 ≤ n5)) (cond (decide (n5 < (((l0.length : Nat) : Int)))) (cond (((List.getD l0 (n5.toNat) (default)).key.base == n1) && (((List.getD l0 (n5.toNat) (default)).key.top == n2) && (((List.getD l0 (n5.toNat) (default)).key.perms == n3) && (((List.getD l0 (n5.toNat) (default)).key.seal_ == n4) && true))))
      (R ())
      (A (w64 (n5 + 1)))) none) none)
    (X ())
noncomputable def spec_l21Has_L0_step (l0 : List GWord) (n1 : Int) (n2 : Int) (n3 : Int) (n4 : Int) (s : Int) : Option (Rnd (Int) (Unit) (Unit)) := spec_l21Has_L0_K l0 n1 n2 n3 n4 s (fun s => some (.again s)) (fun t => some (.exit t)) (fun k => some (.ret k))
theorem spec_l21Has_L0_bind (l0 : List GWord) (n1 : Int) (n2 : Int) (n3 : Int) (n4 : Int) (s : Int) {ρ : Type} (A : Int → Option ρ) (X : Unit → Option ρ) (R : Unit → Option ρ) : spec_l21Has_L0_K l0 n1 n2 n3 n4 s A X R = (spec_l21Has_L0_step l0 n1 n2 n3 n4 s).bind (rndE A X R) := by
  simp only [spec_l21Has_L0_step, spec_l21Has_L0_K, Option.bind_assoc, Option.bind_some, Option.bind_none, cond_bind, sumK_bind, rndE_again, rndE_exit, rndE_ret]
def spec_l21Has_L0_st (p : List GWord × Int × Int × Int × Int) (s : Int) : List V × Heap Row := ([.c (.sl 0 0), .c (.ptr 1 0), .c (.int .i64 (s))], [⟨.row ⟨.word, p.1⟩, 0, 1⟩, ⟨.box [.int .i64 (p.2.1), .int .i64 (p.2.2.1), .int .i64 (p.2.2.2.1), .int .i64 (p.2.2.2.2)], 0, 2⟩])
def spec_l21Has_L0_so (p : List GWord × Int × Int × Int × Int) (t : Unit) : List V × Heap Row := ([], [⟨.row ⟨.word, p.1⟩, 0, 1⟩])
def spec_l21Has_L0_sr (p : List GWord × Int × Int × Int × Int) (k : Unit) : List V × Heap Row := ([.c (.bool true)], [⟨.row ⟨.word, p.1⟩, 0, 1⟩])
def spec_l21Has_L0_D : List V → Heap Row → Option ((List GWord × Int × Int × Int × Int) × (Int))
  | [.c (.sl 0 0), .c (.ptr 1 0), .c (.int .i64 v1)], [⟨.row ⟨.word, v2⟩, 0, 1⟩, ⟨.box [.int .i64 v3, .int .i64 v4, .int .i64 v5, .int .i64 v6], 0, 2⟩] => some ((v2, v3, v4, v5, v6), (v1))
  | _, _ => none
theorem spec_l21Has_L0_D_ok (vs : List V) (L : Heap Row) (p : List GWord × Int × Int × Int × Int) (s : Int) (h : spec_l21Has_L0_D vs L = some (p, s)) : spec_l21Has_L0_st p s = (vs, L) := by
  unfold spec_l21Has_L0_D at h
  split at h
  · simp at h; obtain ⟨rfl, rfl⟩ := h; rfl
  · simp at h
noncomputable def spec_l21Has_L0_H : LoopH Row := loopR [0, 3, 5] [] spec_l21Has_L0_D (fun p => spec_l21Has_L0_step (p.1) (p.2.1) (p.2.2.1) (p.2.2.2.1) (p.2.2.2.2)) spec_l21Has_L0_so spec_l21Has_L0_sr
theorem spec_l21Has_L0_nf (p : List GWord × Int × Int × Int × Int) (s : Int) (ρ : Type) (again Kx Kr : List V → Heap Row → Option ρ) : evRound rowU (envOf 118 1 [] [(0, spec_l21Has_L0_H)]) 0 spec_l21Has_L0_H (loopC 118 0) again (spec_l21Has_L0_st p s).1 (spec_l21Has_L0_st p s).2 Kx Kr = spec_l21Has_L0_K (p.1) (p.2.1) (p.2.2.1) (p.2.2.2.1) (p.2.2.2.2) s (fun s => again (spec_l21Has_L0_st p s).1 (spec_l21Has_L0_st p s).2) (fun t => Kx (spec_l21Has_L0_so p t).1 (spec_l21Has_L0_so p t).2) (fun k => Kr (spec_l21Has_L0_sr p k).1 (spec_l21Has_L0_sr p k).2) := by kernel_rfl
theorem spec_l21Has_L0_ok (hb : LoopsOk Try.prog rowU (envOf 118 1 [] [(0, spec_l21Has_L0_H)]) (loopAt (codeP 118) 0)) : LoopOk Try.prog rowU (envOf 118 1 [] [(0, spec_l21Has_L0_H)]) 0 (loopAt (codeP 118) 0) spec_l21Has_L0_H :=
  loopR_ok tagOk mixed envNl (envT TabOk.nil) hb spec_l21Has_L0_st spec_l21Has_L0_D_ok fun p s ρ A Kx Kr => (spec_l21Has_L0_nf p s ρ A Kx Kr).trans (spec_l21Has_L0_bind (p.1) (p.2.1) (p.2.2.1) (p.2.2.2.1) (p.2.2.2.2) s _ _ _)
noncomputable def spec_l21Has_K (x0 : List GWord) (x1 : GKey) {ρ : Type} (K : Bool → Option ρ) : Option ρ :=
  Option.bind (runL (spec_l21Has_L0_step x0 x1.base x1.top x1.perms x1.seal_) 0) fun ot1 => sumK ot1
    (fun t1 => K false)
    (fun k2 => K true)
noncomputable def spec_l21Has (x0 : List GWord) (x1 : GKey) : Option (Bool) := spec_l21Has_K x0 x1 some
theorem spec_l21Has_bind (x0 : List GWord) (x1 : GKey) {ρ : Type} (K : Bool → Option ρ) : spec_l21Has_K x0 x1 K = (spec_l21Has x0 x1).bind K := by
  simp only [spec_l21Has, spec_l21Has_K, Option.bind_assoc, Option.bind_some, Option.bind_none, cond_bind, sumK_bind]
noncomputable def spec_l21Has_E : Env Row := envN false 118 1 [] [(0, spec_l21Has_L0_H)]
theorem spec_l21Has_nf (x0 : List GWord) (x1 : GKey) (ρ : Type) (K : V → Heap Row → Option ρ) : evBody rowU spec_l21Has_E (bodyC 118) [.c (.sl 0 0), .a [.int .i64 x1.base, .int .i64 x1.top, .int .i64 x1.perms, .int .i64 x1.seal_]] [⟨.row ⟨.word, x0⟩, 0, 1⟩] K = spec_l21Has_K x0 x1 (fun r => K (.c (.bool r)) [⟨.row ⟨.word, x0⟩, 0, 1⟩]) := by kernel_rfl
def spec_l21Has_D : List V → Heap Row → Option (List GWord × GKey)
  | [.c (.sl 0 0), .a (.int .i64 v1 :: .int .i64 v2 :: .int .i64 v3 :: .int .i64 v4 :: [])], [⟨.row ⟨.word, v5⟩, 0, 1⟩] => some (v5, ⟨v1, v2, v3, v4⟩)
  | _, _ => none
theorem spec_l21Has_D_ok {vs : List V} {W : Heap Row} {a : List GWord × GKey} (h : spec_l21Has_D vs W = some a) : vs = [.c (.sl 0 0), .a [.int .i64 (a.2).base, .int .i64 (a.2).top, .int .i64 (a.2).perms, .int .i64 (a.2).seal_]] ∧ W = [⟨.row ⟨.word, a.1⟩, 0, 1⟩] := by
  unfold spec_l21Has_D at h
  split at h
  · simp at h; subst h; exact ⟨rfl, rfl⟩
  · simp at h
noncomputable def spec_l21Has_C : Callee Row := ⟨[(false, 0)], fun _ vs W K => (spec_l21Has_D vs W).bind fun a => (spec_l21Has a.1 a.2).bind fun r => K (.c (.bool r)) [⟨.row ⟨.word, a.1⟩, 0, 1⟩]⟩
theorem spec_l21Has_ok : CalleeOk Try.prog rowU 118 spec_l21Has_C := by
  refine calleeP (nl := false) (m0 := 1) (T := []) (H := [(0, spec_l21Has_L0_H)]) TabOk.nil (by kernel_rfl) (by kernel_rfl) (fun p hp hb => by
    simp only [List.mem_cons, List.not_mem_nil, or_false] at hp
    subst hp
    exact spec_l21Has_L0_ok hb) fun ρ vs W K r h => ?_
  obtain ⟨a, ha, h1⟩ := Option.bind_eq_some_iff.1 h
  clear h
  obtain ⟨rfl, rfl⟩ := spec_l21Has_D_ok ha
  obtain ⟨q, hq, h2⟩ := Option.bind_eq_some_iff.1 h1
  exact ⟨_, _, h2, (spec_l21Has_nf (a.1) (a.2) _ _).trans ((spec_l21Has_bind (a.1) (a.2) _).trans (by rw [hq]; rfl))⟩
end Go.Eng
