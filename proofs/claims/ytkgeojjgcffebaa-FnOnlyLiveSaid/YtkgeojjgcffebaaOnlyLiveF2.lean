/- Functions of the program, as the evaluator tells them: printed by a program of ours. -/
import Derived.Test.YtkgeojjgcffebaaOnlyLiveFS
import Derived.Test.YtkgeojjgcffebaaOnlyLiveF1
set_option linter.unusedVariables false
set_option linter.unusedSimpArgs false
set_option maxRecDepth 20000
namespace Go.Eng
open Go.Proofs
/-! loop.example/g00249/impl.Exact -/
noncomputable def impl_Exact_K (x0 : Int) (x1 : Int) {ρ : Type} (K : Bool → Option ρ) : Option ρ :=
  Option.bind (impl_Wide x0 x1) fun r1 =>
  Option.bind (impl_BoundsOk x0 x1) fun r2 =>
  cond (r2 == true)
    (cond ((r1.1 == x0) == true)
      (K (r1.2 == x1))
      (K false))
    (K false)
noncomputable def impl_Exact (x0 : Int) (x1 : Int) : Option (Bool) := impl_Exact_K x0 x1 some
theorem impl_Exact_bind (x0 : Int) (x1 : Int) {ρ : Type} (K : Bool → Option ρ) : impl_Exact_K x0 x1 K = (impl_Exact x0 x1).bind K := by
  simp only [impl_Exact, impl_Exact_K, Option.bind_assoc, Option.bind_some, Option.bind_none, cond_bind, sumK_bind]
noncomputable def impl_Exact_E : Env Row := envN false 198 0 [(250, impl_BoundsOk_C), (249, impl_Wide_C)] []
theorem impl_Exact_nf (x0 : Int) (x1 : Int) (ρ : Type) (K : V → Heap Row → Option ρ) : evBody rowU impl_Exact_E (bodyC 198) [.c (.int .i64 x0), .c (.int .i64 x1)] [] K = impl_Exact_K x0 x1 (fun r => K (.c (.bool r)) []) := by kernel_rfl
def impl_Exact_D : List V → Heap Row → Option (Int × Int)
  | [.c (.int .i64 v1), .c (.int .i64 v2)], [] => some (v1, v2)
  | _, _ => none
theorem impl_Exact_D_ok {vs : List V} {W : Heap Row} {a : Int × Int} (h : impl_Exact_D vs W = some a) : vs = [.c (.int .i64 (a.1)), .c (.int .i64 (a.2))] ∧ W = [] := by
  unfold impl_Exact_D at h
  split at h
  · simp at h; subst h; exact ⟨rfl, rfl⟩
  · simp at h
noncomputable def impl_Exact_C : Callee Row := ⟨[], fun _ vs W K => (impl_Exact_D vs W).bind fun a => (impl_Exact a.1 a.2).bind fun r => K (.c (.bool r)) []⟩
theorem impl_Exact_ok : CalleeOk Try.prog rowU 198 impl_Exact_C := by
  refine calleeP (nl := false) (m0 := 0) (T := [(250, impl_BoundsOk_C), (249, impl_Wide_C)]) (H := []) (TabOk.cons impl_BoundsOk_ok (TabOk.cons impl_Wide_ok TabOk.nil)) (by kernel_rfl) (by kernel_rfl) (fun p hp => nomatch hp) fun ρ vs W K r h => ?_
  obtain ⟨a, ha, h1⟩ := Option.bind_eq_some_iff.1 h
  clear h
  obtain ⟨rfl, rfl⟩ := impl_Exact_D_ok ha
  obtain ⟨q, hq, h2⟩ := Option.bind_eq_some_iff.1 h1
  exact ⟨_, _, h2, (impl_Exact_nf (a.1) (a.2) _ _).trans ((impl_Exact_bind (a.1) (a.2) _).trans (by rw [hq]; rfl))⟩
/-! loop.example/g00249/impl.KeyOk -/
noncomputable def impl_KeyOk_K (x0 : GKey) {ρ : Type} (K : Bool → Option ρ) : Option ρ :=
  Option.bind (impl_Exact x0.base x0.top) fun r1 =>
  cond (r1 == true)
    (Option.bind (impl_in x0.perms 0 63) fun r2 =>
    cond (r2 == true)
      (Option.bind (impl_in x0.seal_ 0 7) fun r3 =>
      K r3)
      (K false))
    (K false)
noncomputable def impl_KeyOk (x0 : GKey) : Option (Bool) := impl_KeyOk_K x0 some
theorem impl_KeyOk_bind (x0 : GKey) {ρ : Type} (K : Bool → Option ρ) : impl_KeyOk_K x0 K = (impl_KeyOk x0).bind K := by
  simp only [impl_KeyOk, impl_KeyOk_K, Option.bind_assoc, Option.bind_some, Option.bind_none, cond_bind, sumK_bind]
noncomputable def impl_KeyOk_E : Env Row := envN false 126 0 [(125, impl_in_C), (198, impl_Exact_C)] []
theorem impl_KeyOk_nf (x0 : GKey) (ρ : Type) (K : V → Heap Row → Option ρ) : evBody rowU impl_KeyOk_E (bodyC 126) [.a [.int .i64 x0.base, .int .i64 x0.top, .int .i64 x0.perms, .int .i64 x0.seal_]] [] K = impl_KeyOk_K x0 (fun r => K (.c (.bool r)) []) := by kernel_rfl
def impl_KeyOk_D : List V → Heap Row → Option (GKey)
  | [.a (.int .i64 v1 :: .int .i64 v2 :: .int .i64 v3 :: .int .i64 v4 :: [])], [] => some (⟨v1, v2, v3, v4⟩)
  | _, _ => none
theorem impl_KeyOk_D_ok {vs : List V} {W : Heap Row} {a : GKey} (h : impl_KeyOk_D vs W = some a) : vs = [.a [.int .i64 (a).base, .int .i64 (a).top, .int .i64 (a).perms, .int .i64 (a).seal_]] ∧ W = [] := by
  unfold impl_KeyOk_D at h
  split at h
  · simp at h; subst h; exact ⟨rfl, rfl⟩
  · simp at h
noncomputable def impl_KeyOk_C : Callee Row := ⟨[], fun _ vs W K => (impl_KeyOk_D vs W).bind fun a => (impl_KeyOk a).bind fun r => K (.c (.bool r)) []⟩
theorem impl_KeyOk_ok : CalleeOk Try.prog rowU 126 impl_KeyOk_C := by
  refine calleeP (nl := false) (m0 := 0) (T := [(125, impl_in_C), (198, impl_Exact_C)]) (H := []) (TabOk.cons impl_in_ok (TabOk.cons impl_Exact_ok TabOk.nil)) (by kernel_rfl) (by kernel_rfl) (fun p hp => nomatch hp) fun ρ vs W K r h => ?_
  obtain ⟨a, ha, h1⟩ := Option.bind_eq_some_iff.1 h
  clear h
  obtain ⟨rfl, rfl⟩ := impl_KeyOk_D_ok ha
  obtain ⟨q, hq, h2⟩ := Option.bind_eq_some_iff.1 h1
  exact ⟨_, _, h2, (impl_KeyOk_nf a _ _).trans ((impl_KeyOk_bind a _).trans (by rw [hq]; rfl))⟩
/-! loop.example/g00249/impl.WordOk -/
noncomputable def impl_WordOk_K (x0 : GWord) {ρ : Type} (K : Bool → Option ρ) : Option ρ :=
  cond x0.is
    (Option.bind (impl_in x0.n 0 65535) fun r1 =>
    cond (r1 == true)
      (Option.bind (impl_KeyOk x0.key) fun r2 =>
      K r2)
      (K false))
    (Option.bind (impl_in x0.n 0 65535) fun r3 =>
    cond (r3 == true)
      (K ((x0.key.base == 0) && ((x0.key.top == 0) && ((x0.key.perms == 0) && ((x0.key.seal_ == 0) && true)))))
      (K false))
noncomputable def impl_WordOk (x0 : GWord) : Option (Bool) := impl_WordOk_K x0 some
theorem impl_WordOk_bind (x0 : GWord) {ρ : Type} (K : Bool → Option ρ) : impl_WordOk_K x0 K = (impl_WordOk x0).bind K := by
  simp only [impl_WordOk, impl_WordOk_K, Option.bind_assoc, Option.bind_some, Option.bind_none, cond_bind, sumK_bind]
noncomputable def impl_WordOk_E : Env Row := envN false 32 0 [(125, impl_in_C), (126, impl_KeyOk_C)] []
theorem impl_WordOk_nf (x0 : GWord) (ρ : Type) (K : V → Heap Row → Option ρ) : evBody rowU impl_WordOk_E (bodyC 32) [.a [.int .i64 x0.n, .bool x0.is, .int .i64 x0.key.base, .int .i64 x0.key.top, .int .i64 x0.key.perms, .int .i64 x0.key.seal_]] [] K = impl_WordOk_K x0 (fun r => K (.c (.bool r)) []) := by kernel_rfl
def impl_WordOk_D : List V → Heap Row → Option (GWord)
  | [.a (.int .i64 v1 :: .bool v2 :: .int .i64 v3 :: .int .i64 v4 :: .int .i64 v5 :: .int .i64 v6 :: [])], [] => some (⟨v1, v2, ⟨v3, v4, v5, v6⟩⟩)
  | _, _ => none
theorem impl_WordOk_D_ok {vs : List V} {W : Heap Row} {a : GWord} (h : impl_WordOk_D vs W = some a) : vs = [.a [.int .i64 (a).n, .bool (a).is, .int .i64 (a).key.base, .int .i64 (a).key.top, .int .i64 (a).key.perms, .int .i64 (a).key.seal_]] ∧ W = [] := by
  unfold impl_WordOk_D at h
  split at h
  · simp at h; subst h; exact ⟨rfl, rfl⟩
  · simp at h
noncomputable def impl_WordOk_C : Callee Row := ⟨[], fun _ vs W K => (impl_WordOk_D vs W).bind fun a => (impl_WordOk a).bind fun r => K (.c (.bool r)) []⟩
theorem impl_WordOk_ok : CalleeOk Try.prog rowU 32 impl_WordOk_C := by
  refine calleeP (nl := false) (m0 := 0) (T := [(125, impl_in_C), (126, impl_KeyOk_C)]) (H := []) (TabOk.cons impl_in_ok (TabOk.cons impl_KeyOk_ok TabOk.nil)) (by kernel_rfl) (by kernel_rfl) (fun p hp => nomatch hp) fun ρ vs W K r h => ?_
  obtain ⟨a, ha, h1⟩ := Option.bind_eq_some_iff.1 h
  clear h
  obtain ⟨rfl, rfl⟩ := impl_WordOk_D_ok ha
  obtain ⟨q, hq, h2⟩ := Option.bind_eq_some_iff.1 h1
  exact ⟨_, _, h2, (impl_WordOk_nf a _ _).trans ((impl_WordOk_bind a _).trans (by rw [hq]; rfl))⟩
/-! loop.example/g00249/impl.MemoryOk$1 -/
noncomputable def impl_MemoryOk_1_K (x0 : GWord) {ρ : Type} (K : Bool → Option ρ) : Option ρ :=
  Option.bind (impl_WordOk x0) fun r1 =>
  K (!r1)
noncomputable def impl_MemoryOk_1 (x0 : GWord) : Option (Bool) := impl_MemoryOk_1_K x0 some
theorem impl_MemoryOk_1_bind (x0 : GWord) {ρ : Type} (K : Bool → Option ρ) : impl_MemoryOk_1_K x0 K = (impl_MemoryOk_1 x0).bind K := by
  simp only [impl_MemoryOk_1, impl_MemoryOk_1_K, Option.bind_assoc, Option.bind_some, Option.bind_none, cond_bind, sumK_bind]
noncomputable def impl_MemoryOk_1_E : Env Row := envN false 124 0 [(32, impl_WordOk_C)] []
theorem impl_MemoryOk_1_nf (x0 : GWord) (ρ : Type) (K : V → Heap Row → Option ρ) : evBody rowU impl_MemoryOk_1_E (bodyC 124) [.a [.int .i64 x0.n, .bool x0.is, .int .i64 x0.key.base, .int .i64 x0.key.top, .int .i64 x0.key.perms, .int .i64 x0.key.seal_]] [] K = impl_MemoryOk_1_K x0 (fun r => K (.c (.bool r)) []) := by kernel_rfl
def impl_MemoryOk_1_D : List V → Heap Row → Option (GWord)
  | [.a (.int .i64 v1 :: .bool v2 :: .int .i64 v3 :: .int .i64 v4 :: .int .i64 v5 :: .int .i64 v6 :: [])], [] => some (⟨v1, v2, ⟨v3, v4, v5, v6⟩⟩)
  | _, _ => none
theorem impl_MemoryOk_1_D_ok {vs : List V} {W : Heap Row} {a : GWord} (h : impl_MemoryOk_1_D vs W = some a) : vs = [.a [.int .i64 (a).n, .bool (a).is, .int .i64 (a).key.base, .int .i64 (a).key.top, .int .i64 (a).key.perms, .int .i64 (a).key.seal_]] ∧ W = [] := by
  unfold impl_MemoryOk_1_D at h
  split at h
  · simp at h; subst h; exact ⟨rfl, rfl⟩
  · simp at h
noncomputable def impl_MemoryOk_1_C : Callee Row := ⟨[], fun _ vs W K => (impl_MemoryOk_1_D vs W).bind fun a => (impl_MemoryOk_1 a).bind fun r => K (.c (.bool r)) []⟩
theorem impl_MemoryOk_1_ok : CalleeOk Try.prog rowU 124 impl_MemoryOk_1_C := by
  refine calleeP (nl := false) (m0 := 0) (T := [(32, impl_WordOk_C)]) (H := []) (TabOk.cons impl_WordOk_ok TabOk.nil) (by kernel_rfl) (by kernel_rfl) (fun p hp => nomatch hp) fun ρ vs W K r h => ?_
  obtain ⟨a, ha, h1⟩ := Option.bind_eq_some_iff.1 h
  clear h
  obtain ⟨rfl, rfl⟩ := impl_MemoryOk_1_D_ok ha
  obtain ⟨q, hq, h2⟩ := Option.bind_eq_some_iff.1 h1
  exact ⟨_, _, h2, (impl_MemoryOk_1_nf a _ _).trans ((impl_MemoryOk_1_bind a _).trans (by rw [hq]; rfl))⟩
/-! slices.IndexFunc[[]loop.example/g00249/impl.Word,loop.example/g00249/impl.Word] -/
noncomputable def slices_IndexFunc_124_L0_K (l0 : List GWord) (n1 : Int) (n2 : Int) {ρ : Type} (A : Int → Option ρ) (X : Unit → Option ρ) (R : Int → Option ρ) : Option ρ :=
  cond (decide (n2 < n1))
    (cond (decide (0 ≤ n2)) (cond (decide (n2 < (((l0.length : Nat) : Int)))) (Option.bind (impl_MemoryOk_1 (List.getD l0 (n2.toNat) (default))) fun r1 =>
    cond r1
      (R n2)
      (A (w64 (n2 + 1)))) none) none)
    (X ())
noncomputable def slices_IndexFunc_124_L0_step (l0 : List GWord) (n1 : Int) (s : Int) : Option (Rnd (Int) (Unit) (Int)) := slices_IndexFunc_124_L0_K l0 n1 s (fun s => some (.again s)) (fun t => some (.exit t)) (fun k => some (.ret k))
theorem slices_IndexFunc_124_L0_bind (l0 : List GWord) (n1 : Int) (s : Int) {ρ : Type} (A : Int → Option ρ) (X : Unit → Option ρ) (R : Int → Option ρ) : slices_IndexFunc_124_L0_K l0 n1 s A X R = (slices_IndexFunc_124_L0_step l0 n1 s).bind (rndE A X R) := by
  simp only [slices_IndexFunc_124_L0_step, slices_IndexFunc_124_L0_K, Option.bind_assoc, Option.bind_some, Option.bind_none, cond_bind, sumK_bind, rndE_again, rndE_exit, rndE_ret]
def slices_IndexFunc_124_L0_st (p : List GWord × Int) (s : Int) : List V × Heap Row := ([.c (.sl 0 0), .c (.fn 124 []), .c (.int .i64 (p.2)), .c (.int .i64 (s))], [⟨.row ⟨.word, p.1⟩, 0, 1⟩])
def slices_IndexFunc_124_L0_so (p : List GWord × Int) (t : Unit) : List V × Heap Row := ([], [⟨.row ⟨.word, p.1⟩, 0, 1⟩])
def slices_IndexFunc_124_L0_sr (p : List GWord × Int) (k : Int) : List V × Heap Row := ([.c (.int .i64 (k))], [⟨.row ⟨.word, p.1⟩, 0, 1⟩])
def slices_IndexFunc_124_L0_D : List V → Heap Row → Option ((List GWord × Int) × (Int))
  | [.c (.sl 0 0), .c (.fn 124 []), .c (.int .i64 v1), .c (.int .i64 v2)], [⟨.row ⟨.word, v3⟩, 0, 1⟩] => some ((v3, v1), (v2))
  | _, _ => none
theorem slices_IndexFunc_124_L0_D_ok (vs : List V) (L : Heap Row) (p : List GWord × Int) (s : Int) (h : slices_IndexFunc_124_L0_D vs L = some (p, s)) : slices_IndexFunc_124_L0_st p s = (vs, L) := by
  unfold slices_IndexFunc_124_L0_D at h
  split at h
  · simp at h; obtain ⟨rfl, rfl⟩ := h; rfl
  · simp at h
noncomputable def slices_IndexFunc_124_L0_H : LoopH Row := loopR [0, 1, 7, 8] [] slices_IndexFunc_124_L0_D (fun p => slices_IndexFunc_124_L0_step (p.1) (p.2)) slices_IndexFunc_124_L0_so slices_IndexFunc_124_L0_sr
theorem slices_IndexFunc_124_L0_nf (p : List GWord × Int) (s : Int) (ρ : Type) (again Kx Kr : List V → Heap Row → Option ρ) : evRound rowU (envOf 196 1 [(124, impl_MemoryOk_1_C)] [(0, slices_IndexFunc_124_L0_H)]) 0 slices_IndexFunc_124_L0_H (loopC 196 0) again (slices_IndexFunc_124_L0_st p s).1 (slices_IndexFunc_124_L0_st p s).2 Kx Kr = slices_IndexFunc_124_L0_K (p.1) (p.2) s (fun s => again (slices_IndexFunc_124_L0_st p s).1 (slices_IndexFunc_124_L0_st p s).2) (fun t => Kx (slices_IndexFunc_124_L0_so p t).1 (slices_IndexFunc_124_L0_so p t).2) (fun k => Kr (slices_IndexFunc_124_L0_sr p k).1 (slices_IndexFunc_124_L0_sr p k).2) := by kernel_rfl
theorem slices_IndexFunc_124_L0_ok (hb : LoopsOk Try.prog rowU (envOf 196 1 [(124, impl_MemoryOk_1_C)] [(0, slices_IndexFunc_124_L0_H)]) (loopAt (codeP 196) 0)) : LoopOk Try.prog rowU (envOf 196 1 [(124, impl_MemoryOk_1_C)] [(0, slices_IndexFunc_124_L0_H)]) 0 (loopAt (codeP 196) 0) slices_IndexFunc_124_L0_H :=
  loopR_ok tagOk mixed envNl (envT (TabOk.cons impl_MemoryOk_1_ok TabOk.nil)) hb slices_IndexFunc_124_L0_st slices_IndexFunc_124_L0_D_ok fun p s ρ A Kx Kr => (slices_IndexFunc_124_L0_nf p s ρ A Kx Kr).trans (slices_IndexFunc_124_L0_bind (p.1) (p.2) s _ _ _)
noncomputable def slices_IndexFunc_124_K (x0 : List GWord) {ρ : Type} (K : Int → Option ρ) : Option ρ :=
  Option.bind (runL (slices_IndexFunc_124_L0_step x0 (((x0.length : Nat) : Int))) 0) fun ot2 => sumK ot2
    (fun t2 => K (-1))
    (fun k3 => K k3)
noncomputable def slices_IndexFunc_124 (x0 : List GWord) : Option (Int) := slices_IndexFunc_124_K x0 some
theorem slices_IndexFunc_124_bind (x0 : List GWord) {ρ : Type} (K : Int → Option ρ) : slices_IndexFunc_124_K x0 K = (slices_IndexFunc_124 x0).bind K := by
  simp only [slices_IndexFunc_124, slices_IndexFunc_124_K, Option.bind_assoc, Option.bind_some, Option.bind_none, cond_bind, sumK_bind]
noncomputable def slices_IndexFunc_124_E : Env Row := envN false 196 1 [(124, impl_MemoryOk_1_C)] [(0, slices_IndexFunc_124_L0_H)]
theorem slices_IndexFunc_124_nf (x0 : List GWord) (ρ : Type) (K : V → Heap Row → Option ρ) : evBody rowU slices_IndexFunc_124_E (bodyC 196) [.c (.sl 0 0), .c (.fn 124 [])] [⟨.row ⟨.word, x0⟩, 0, 1⟩] K = slices_IndexFunc_124_K x0 (fun r => K (.c (.int .i64 r)) [⟨.row ⟨.word, x0⟩, 0, 1⟩]) := by kernel_rfl
def slices_IndexFunc_124_D : List V → Heap Row → Option (List GWord)
  | [.c (.sl 0 0), .c (.fn 124 [])], [⟨.row ⟨.word, v1⟩, 0, 1⟩] => some (v1)
  | _, _ => none
theorem slices_IndexFunc_124_D_ok {vs : List V} {W : Heap Row} {a : List GWord} (h : slices_IndexFunc_124_D vs W = some a) : vs = [.c (.sl 0 0), .c (.fn 124 [])] ∧ W = [⟨.row ⟨.word, a⟩, 0, 1⟩] := by
  unfold slices_IndexFunc_124_D at h
  split at h
  · simp at h; subst h; exact ⟨rfl, rfl⟩
  · simp at h
noncomputable def slices_IndexFunc_124_C : Callee Row := ⟨[(false, 0)], fun _ vs W K => (slices_IndexFunc_124_D vs W).bind fun a => (slices_IndexFunc_124 a).bind fun r => K (.c (.int .i64 r)) [⟨.row ⟨.word, a⟩, 0, 1⟩]⟩
theorem slices_IndexFunc_124_ok : CalleeOk Try.prog rowU 196 slices_IndexFunc_124_C := by
  refine calleeP (nl := false) (m0 := 1) (T := [(124, impl_MemoryOk_1_C)]) (H := [(0, slices_IndexFunc_124_L0_H)]) (TabOk.cons impl_MemoryOk_1_ok TabOk.nil) (by kernel_rfl) (by kernel_rfl) (fun p hp hb => by
    simp only [List.mem_cons, List.not_mem_nil, or_false] at hp
    subst hp
    exact slices_IndexFunc_124_L0_ok hb) fun ρ vs W K r h => ?_
  obtain ⟨a, ha, h1⟩ := Option.bind_eq_some_iff.1 h
  clear h
  obtain ⟨rfl, rfl⟩ := slices_IndexFunc_124_D_ok ha
  obtain ⟨q, hq, h2⟩ := Option.bind_eq_some_iff.1 h1
  exact ⟨_, _, h2, (slices_IndexFunc_124_nf a _ _).trans ((slices_IndexFunc_124_bind a _).trans (by rw [hq]; rfl))⟩
/-! slices.ContainsFunc[[]loop.example/g00249/impl.Word,loop.example/g00249/impl.Word] -/
noncomputable def slices_ContainsFunc_124_K (x0 : List GWord) {ρ : Type} (K : Bool → Option ρ) : Option ρ :=
  Option.bind (slices_IndexFunc_124 x0) fun r1 =>
  K (decide (r1 ≥ 0))
noncomputable def slices_ContainsFunc_124 (x0 : List GWord) : Option (Bool) := slices_ContainsFunc_124_K x0 some
theorem slices_ContainsFunc_124_bind (x0 : List GWord) {ρ : Type} (K : Bool → Option ρ) : slices_ContainsFunc_124_K x0 K = (slices_ContainsFunc_124 x0).bind K := by
  simp only [slices_ContainsFunc_124, slices_ContainsFunc_124_K, Option.bind_assoc, Option.bind_some, Option.bind_none, cond_bind, sumK_bind]
noncomputable def slices_ContainsFunc_124_E : Env Row := envN false 113 1 [(196, slices_IndexFunc_124_C)] []
theorem slices_ContainsFunc_124_nf (x0 : List GWord) (ρ : Type) (K : V → Heap Row → Option ρ) : evBody rowU slices_ContainsFunc_124_E (bodyC 113) [.c (.sl 0 0), .c (.fn 124 [])] [⟨.row ⟨.word, x0⟩, 0, 1⟩] K = slices_ContainsFunc_124_K x0 (fun r => K (.c (.bool r)) [⟨.row ⟨.word, x0⟩, 0, 1⟩]) := by kernel_rfl
def slices_ContainsFunc_124_D : List V → Heap Row → Option (List GWord)
  | [.c (.sl 0 0), .c (.fn 124 [])], [⟨.row ⟨.word, v1⟩, 0, 1⟩] => some (v1)
  | _, _ => none
theorem slices_ContainsFunc_124_D_ok {vs : List V} {W : Heap Row} {a : List GWord} (h : slices_ContainsFunc_124_D vs W = some a) : vs = [.c (.sl 0 0), .c (.fn 124 [])] ∧ W = [⟨.row ⟨.word, a⟩, 0, 1⟩] := by
  unfold slices_ContainsFunc_124_D at h
  split at h
  · simp at h; subst h; exact ⟨rfl, rfl⟩
  · simp at h
noncomputable def slices_ContainsFunc_124_C : Callee Row := ⟨[(false, 0)], fun _ vs W K => (slices_ContainsFunc_124_D vs W).bind fun a => (slices_ContainsFunc_124 a).bind fun r => K (.c (.bool r)) [⟨.row ⟨.word, a⟩, 0, 1⟩]⟩
theorem slices_ContainsFunc_124_ok : CalleeOk Try.prog rowU 113 slices_ContainsFunc_124_C := by
  refine calleeP (nl := false) (m0 := 1) (T := [(196, slices_IndexFunc_124_C)]) (H := []) (TabOk.cons slices_IndexFunc_124_ok TabOk.nil) (by kernel_rfl) (by kernel_rfl) (fun p hp => nomatch hp) fun ρ vs W K r h => ?_
  obtain ⟨a, ha, h1⟩ := Option.bind_eq_some_iff.1 h
  clear h
  obtain ⟨rfl, rfl⟩ := slices_ContainsFunc_124_D_ok ha
  obtain ⟨q, hq, h2⟩ := Option.bind_eq_some_iff.1 h1
  exact ⟨_, _, h2, (slices_ContainsFunc_124_nf a _ _).trans ((slices_ContainsFunc_124_bind a _).trans (by rw [hq]; rfl))⟩
/-! loop.example/g00249/impl.MemoryOk -/
noncomputable def impl_MemoryOk_K (x0 : GMemory) {ρ : Type} (K : Bool → Option ρ) : Option ρ :=
  cond (((((x0.words.length : Nat) : Int)) == 24) == true)
    (cond (((((x0.gone.length : Nat) : Int)) == 24) == true)
      (Option.bind (slices_ContainsFunc_124 x0.words) fun r1 =>
      K (!r1))
      (K false))
    (K false)
noncomputable def impl_MemoryOk (x0 : GMemory) : Option (Bool) := impl_MemoryOk_K x0 some
theorem impl_MemoryOk_bind (x0 : GMemory) {ρ : Type} (K : Bool → Option ρ) : impl_MemoryOk_K x0 K = (impl_MemoryOk x0).bind K := by
  simp only [impl_MemoryOk, impl_MemoryOk_K, Option.bind_assoc, Option.bind_some, Option.bind_none, cond_bind, sumK_bind]
noncomputable def impl_MemoryOk_E : Env Row := envN false 31 2 [(113, slices_ContainsFunc_124_C)] []
theorem impl_MemoryOk_nf (x0 : GMemory) (ρ : Type) (K : V → Heap Row → Option ρ) : evBody rowU impl_MemoryOk_E (bodyC 31) [.a [.sl 0 0, .sl 1 0]] [⟨.row ⟨.word, x0.words⟩, 0, 1⟩, ⟨.row ⟨.bool, x0.gone⟩, 0, 1⟩] K = impl_MemoryOk_K x0 (fun r => K (.c (.bool r)) [⟨.row ⟨.word, x0.words⟩, 0, 1⟩, ⟨.row ⟨.bool, x0.gone⟩, 0, 1⟩]) := by kernel_rfl
def impl_MemoryOk_D : List V → Heap Row → Option (GMemory)
  | [.a (.sl 0 0 :: .sl 1 0 :: [])], [⟨.row ⟨.word, v1⟩, 0, 1⟩, ⟨.row ⟨.bool, v2⟩, 0, 1⟩] => some (⟨v1, v2⟩)
  | _, _ => none
theorem impl_MemoryOk_D_ok {vs : List V} {W : Heap Row} {a : GMemory} (h : impl_MemoryOk_D vs W = some a) : vs = [.a [.sl 0 0, .sl 1 0]] ∧ W = [⟨.row ⟨.word, (a).words⟩, 0, 1⟩, ⟨.row ⟨.bool, (a).gone⟩, 0, 1⟩] := by
  unfold impl_MemoryOk_D at h
  split at h
  · simp at h; subst h; exact ⟨rfl, rfl⟩
  · simp at h
noncomputable def impl_MemoryOk_C : Callee Row := ⟨[(false, 0), (false, 0)], fun _ vs W K => (impl_MemoryOk_D vs W).bind fun a => (impl_MemoryOk a).bind fun r => K (.c (.bool r)) [⟨.row ⟨.word, (a).words⟩, 0, 1⟩, ⟨.row ⟨.bool, (a).gone⟩, 0, 1⟩]⟩
theorem impl_MemoryOk_ok : CalleeOk Try.prog rowU 31 impl_MemoryOk_C := by
  refine calleeP (nl := false) (m0 := 2) (T := [(113, slices_ContainsFunc_124_C)]) (H := []) (TabOk.cons slices_ContainsFunc_124_ok TabOk.nil) (by kernel_rfl) (by kernel_rfl) (fun p hp => nomatch hp) fun ρ vs W K r h => ?_
  obtain ⟨a, ha, h1⟩ := Option.bind_eq_some_iff.1 h
  clear h
  obtain ⟨rfl, rfl⟩ := impl_MemoryOk_D_ok ha
  obtain ⟨q, hq, h2⟩ := Option.bind_eq_some_iff.1 h1
  exact ⟨_, _, h2, (impl_MemoryOk_nf a _ _).trans ((impl_MemoryOk_bind a _).trans (by rw [hq]; rfl))⟩
/-! loop.example/g00249/impl.marked -/
noncomputable def impl_marked_L2_K (l1 : List GSpan) (n2 : Int) (n3 : Int) (n5 : Int) (n6 : Int) (l0 : List Bool) (n4 : Int) {ρ : Type} (A : List Bool × Int → Option ρ) (X : List Bool → Option ρ) (R : List Bool → Option ρ) : Option ρ :=
  cond (decide (n4 < (w64 (n2 + n3))))
    (cond (decide (0 ≤ n4)) (cond (decide (n4 < (((l0.length : Nat) : Int)))) (cond (List.getD l0 (n4.toNat) false)
      (R l0)
      (cond (decide (0 ≤ n4)) (cond (decide (n4 < (((l0.length : Nat) : Int)))) (A (List.set l0 (n4.toNat) true, w64 (n4 + 1))) none) none)) none) none)
    (X l0)
noncomputable def impl_marked_L2_step (l1 : List GSpan) (n2 : Int) (n3 : Int) (n5 : Int) (n6 : Int) (s : List Bool × Int) : Option (Rnd (List Bool × Int) (List Bool) (List Bool)) := impl_marked_L2_K l1 n2 n3 n5 n6 (s.1) (s.2) (fun s => some (.again s)) (fun t => some (.exit t)) (fun k => some (.ret k))
theorem impl_marked_L2_bind (l1 : List GSpan) (n2 : Int) (n3 : Int) (n5 : Int) (n6 : Int) (s : List Bool × Int) {ρ : Type} (A : List Bool × Int → Option ρ) (X : List Bool → Option ρ) (R : List Bool → Option ρ) : impl_marked_L2_K l1 n2 n3 n5 n6 (s.1) (s.2) A X R = (impl_marked_L2_step l1 n2 n3 n5 n6 s).bind (rndE A X R) := by
  simp only [impl_marked_L2_step, impl_marked_L2_K, Option.bind_assoc, Option.bind_some, Option.bind_none, cond_bind, sumK_bind, rndE_again, rndE_exit, rndE_ret]
def impl_marked_L2_st (p : List GSpan × Int × Int × Int × Int) (s : List Bool × Int) : List V × Heap Row := ([.c (.sl 0 0), .c (.sl 1 0), .c (.ptr 2 0), .c (.int .i64 (s.2)), .c (.sl 1 0), .c (.int .i64 (p.2.2.2.1)), .c (.int .i64 (p.2.2.2.2))], [⟨.row ⟨.bool, s.1⟩, 0, 2⟩, ⟨.row ⟨.span, p.1⟩, 0, 1⟩, ⟨.box [.int .i64 (p.2.1), .int .i64 (p.2.2.1)], 0, 2⟩])
def impl_marked_L2_so (p : List GSpan × Int × Int × Int × Int) (t : List Bool) : List V × Heap Row := ([.c (.sl 0 0), .c (.sl 1 0), .c (.sl 1 0), .c (.int .i64 (p.2.2.2.1)), .c (.int .i64 (p.2.2.2.2))], [⟨.row ⟨.bool, t⟩, 0, 2⟩, ⟨.row ⟨.span, p.1⟩, 0, 1⟩])
def impl_marked_L2_sr (p : List GSpan × Int × Int × Int × Int) (k : List Bool) : List V × Heap Row := ([.c (.bool false)], [⟨.row ⟨.bool, k⟩, 0, 2⟩, ⟨.row ⟨.span, p.1⟩, 0, 1⟩])
def impl_marked_L2_D : List V → Heap Row → Option ((List GSpan × Int × Int × Int × Int) × (List Bool × Int))
  | [.c (.sl 0 0), .c (.sl 1 0), .c (.ptr 2 0), .c (.int .i64 v1), .c (.sl 1 0), .c (.int .i64 v2), .c (.int .i64 v3)], [⟨.row ⟨.bool, v4⟩, 0, 2⟩, ⟨.row ⟨.span, v5⟩, 0, 1⟩, ⟨.box [.int .i64 v6, .int .i64 v7], 0, 2⟩] => some ((v5, v6, v7, v2, v3), (v4, v1))
  | _, _ => none
theorem impl_marked_L2_D_ok (vs : List V) (L : Heap Row) (p : List GSpan × Int × Int × Int × Int) (s : List Bool × Int) (h : impl_marked_L2_D vs L = some (p, s)) : impl_marked_L2_st p s = (vs, L) := by
  unfold impl_marked_L2_D at h
  split at h
  · simp at h; obtain ⟨rfl, rfl⟩ := h; rfl
  · simp at h
noncomputable def impl_marked_L2_H : LoopH Row := loopR [0, 1, 6, 7, 8, 9, 10] [0, 1, 8, 9, 10] impl_marked_L2_D (fun p => impl_marked_L2_step (p.1) (p.2.1) (p.2.2.1) (p.2.2.2.1) (p.2.2.2.2)) impl_marked_L2_so impl_marked_L2_sr
noncomputable def impl_marked_L0_K (l1 : List GSpan) (n2 : Int) (l0 : List Bool) (n3 : Int) {ρ : Type} (A : List Bool × Int → Option ρ) (X : List Bool → Option ρ) (R : List Bool → Option ρ) : Option ρ :=
  cond (decide (n3 < n2))
    (cond (decide (0 ≤ n3)) (cond (decide (n3 < (((l1.length : Nat) : Int)))) (cond ((decide ((List.getD l1 (n3.toNat) (default)).len < 1)) == false)
      (Option.bind (impl_in (List.getD l1 (n3.toNat) (default)).at_ 0 23) fun r1 =>
      cond ((!r1) == false)
        (cond ((decide ((List.getD l1 (n3.toNat) (default)).len > (w64 (24 - (List.getD l1 (n3.toNat) (default)).at_)))) == false)
          (cond ((decide (n3 > 0)) == true)
            (cond (decide (0 ≤ (w64 (n3 - 1)))) (cond (decide ((w64 (n3 - 1)) < (((l1.length : Nat) : Int)))) (cond (decide ((List.getD l1 ((w64 (n3 - 1)).toNat) (default)).at_ ≥ (List.getD l1 (n3.toNat) (default)).at_))
              (R l0)
              (Option.bind (runL (impl_marked_L2_step l1 (List.getD l1 (n3.toNat) (default)).at_ (List.getD l1 (n3.toNat) (default)).len n2 n3) (l0, (List.getD l1 (n3.toNat) (default)).at_)) fun ot2 => sumK ot2
                (fun t2 => A (t2, w64 (n3 + 1)))
                (fun k3 => R k3))) none) none)
            (Option.bind (runL (impl_marked_L2_step l1 (List.getD l1 (n3.toNat) (default)).at_ (List.getD l1 (n3.toNat) (default)).len n2 n3) (l0, (List.getD l1 (n3.toNat) (default)).at_)) fun ot4 => sumK ot4
              (fun t4 => A (t4, w64 (n3 + 1)))
              (fun k5 => R k5)))
          (R l0))
        (R l0))
      (R l0)) none) none)
    (X l0)
noncomputable def impl_marked_L0_step (l1 : List GSpan) (n2 : Int) (s : List Bool × Int) : Option (Rnd (List Bool × Int) (List Bool) (List Bool)) := impl_marked_L0_K l1 n2 (s.1) (s.2) (fun s => some (.again s)) (fun t => some (.exit t)) (fun k => some (.ret k))
theorem impl_marked_L0_bind (l1 : List GSpan) (n2 : Int) (s : List Bool × Int) {ρ : Type} (A : List Bool × Int → Option ρ) (X : List Bool → Option ρ) (R : List Bool → Option ρ) : impl_marked_L0_K l1 n2 (s.1) (s.2) A X R = (impl_marked_L0_step l1 n2 s).bind (rndE A X R) := by
  simp only [impl_marked_L0_step, impl_marked_L0_K, Option.bind_assoc, Option.bind_some, Option.bind_none, cond_bind, sumK_bind, rndE_again, rndE_exit, rndE_ret]
def impl_marked_L0_st (p : List GSpan × Int) (s : List Bool × Int) : List V × Heap Row := ([.c (.sl 0 0), .c (.sl 1 0), .c (.sl 1 0), .c (.int .i64 (p.2)), .c (.int .i64 (s.2))], [⟨.row ⟨.bool, s.1⟩, 0, 2⟩, ⟨.row ⟨.span, p.1⟩, 0, 1⟩])
def impl_marked_L0_so (p : List GSpan × Int) (t : List Bool) : List V × Heap Row := ([], [⟨.row ⟨.bool, t⟩, 0, 2⟩, ⟨.row ⟨.span, p.1⟩, 0, 1⟩])
def impl_marked_L0_sr (p : List GSpan × Int) (k : List Bool) : List V × Heap Row := ([.c (.bool false)], [⟨.row ⟨.bool, k⟩, 0, 2⟩, ⟨.row ⟨.span, p.1⟩, 0, 1⟩])
def impl_marked_L0_D : List V → Heap Row → Option ((List GSpan × Int) × (List Bool × Int))
  | [.c (.sl 0 0), .c (.sl 1 0), .c (.sl 1 0), .c (.int .i64 v1), .c (.int .i64 v2)], [⟨.row ⟨.bool, v3⟩, 0, 2⟩, ⟨.row ⟨.span, v4⟩, 0, 1⟩] => some ((v4, v1), (v3, v2))
  | _, _ => none
theorem impl_marked_L0_D_ok (vs : List V) (L : Heap Row) (p : List GSpan × Int) (s : List Bool × Int) (h : impl_marked_L0_D vs L = some (p, s)) : impl_marked_L0_st p s = (vs, L) := by
  unfold impl_marked_L0_D at h
  split at h
  · simp at h; obtain ⟨rfl, rfl⟩ := h; rfl
  · simp at h
noncomputable def impl_marked_L0_H : LoopH Row := loopR [0, 1, 8, 9, 10] [] impl_marked_L0_D (fun p => impl_marked_L0_step (p.1) (p.2)) impl_marked_L0_so impl_marked_L0_sr
theorem impl_marked_L2_nf (p : List GSpan × Int × Int × Int × Int) (s : List Bool × Int) (ρ : Type) (again Kx Kr : List V → Heap Row → Option ρ) : evRound rowU (envOf 139 2 [(125, impl_in_C)] [(2, impl_marked_L2_H), (0, impl_marked_L0_H)]) 2 impl_marked_L2_H (loopC 139 2) again (impl_marked_L2_st p s).1 (impl_marked_L2_st p s).2 Kx Kr = impl_marked_L2_K (p.1) (p.2.1) (p.2.2.1) (p.2.2.2.1) (p.2.2.2.2) (s.1) (s.2) (fun s => again (impl_marked_L2_st p s).1 (impl_marked_L2_st p s).2) (fun t => Kx (impl_marked_L2_so p t).1 (impl_marked_L2_so p t).2) (fun k => Kr (impl_marked_L2_sr p k).1 (impl_marked_L2_sr p k).2) := by kernel_rfl
theorem impl_marked_L2_ok (hb : LoopsOk Try.prog rowU (envOf 139 2 [(125, impl_in_C)] [(2, impl_marked_L2_H), (0, impl_marked_L0_H)]) (loopAt (codeP 139) 2)) : LoopOk Try.prog rowU (envOf 139 2 [(125, impl_in_C)] [(2, impl_marked_L2_H), (0, impl_marked_L0_H)]) 2 (loopAt (codeP 139) 2) impl_marked_L2_H :=
  loopR_ok tagOk mixed envNl (envT (TabOk.cons impl_in_ok TabOk.nil)) hb impl_marked_L2_st impl_marked_L2_D_ok fun p s ρ A Kx Kr => (impl_marked_L2_nf p s ρ A Kx Kr).trans (impl_marked_L2_bind (p.1) (p.2.1) (p.2.2.1) (p.2.2.2.1) (p.2.2.2.2) s _ _ _)
theorem impl_marked_L0_nf (p : List GSpan × Int) (s : List Bool × Int) (ρ : Type) (again Kx Kr : List V → Heap Row → Option ρ) : evRound rowU (envOf 139 2 [(125, impl_in_C)] [(2, impl_marked_L2_H), (0, impl_marked_L0_H)]) 0 impl_marked_L0_H (loopC 139 0) again (impl_marked_L0_st p s).1 (impl_marked_L0_st p s).2 Kx Kr = impl_marked_L0_K (p.1) (p.2) (s.1) (s.2) (fun s => again (impl_marked_L0_st p s).1 (impl_marked_L0_st p s).2) (fun t => Kx (impl_marked_L0_so p t).1 (impl_marked_L0_so p t).2) (fun k => Kr (impl_marked_L0_sr p k).1 (impl_marked_L0_sr p k).2) := by kernel_rfl
theorem impl_marked_L0_ok (hb : LoopsOk Try.prog rowU (envOf 139 2 [(125, impl_in_C)] [(2, impl_marked_L2_H), (0, impl_marked_L0_H)]) (loopAt (codeP 139) 0)) : LoopOk Try.prog rowU (envOf 139 2 [(125, impl_in_C)] [(2, impl_marked_L2_H), (0, impl_marked_L0_H)]) 0 (loopAt (codeP 139) 0) impl_marked_L0_H :=
  loopR_ok tagOk mixed envNl (envT (TabOk.cons impl_in_ok TabOk.nil)) hb impl_marked_L0_st impl_marked_L0_D_ok fun p s ρ A Kx Kr => (impl_marked_L0_nf p s ρ A Kx Kr).trans (impl_marked_L0_bind (p.1) (p.2) s _ _ _)
noncomputable def impl_marked_K (x0 : List Bool) (x1 : List GSpan) {ρ : Type} (K : Bool × List Bool → Option ρ) : Option ρ :=
  Option.bind (runL (impl_marked_L0_step x1 (((x1.length : Nat) : Int))) (x0, 0)) fun ot6 => sumK ot6
    (fun t6 => K (true, t6))
    (fun k7 => K (false, k7))
noncomputable def impl_marked (x0 : List Bool) (x1 : List GSpan) : Option (Bool × List Bool) := impl_marked_K x0 x1 some
theorem impl_marked_bind (x0 : List Bool) (x1 : List GSpan) {ρ : Type} (K : Bool × List Bool → Option ρ) : impl_marked_K x0 x1 K = (impl_marked x0 x1).bind K := by
  simp only [impl_marked, impl_marked_K, Option.bind_assoc, Option.bind_some, Option.bind_none, cond_bind, sumK_bind]
noncomputable def impl_marked_E : Env Row := envN false 139 2 [(125, impl_in_C)] [(2, impl_marked_L2_H), (0, impl_marked_L0_H)]
theorem impl_marked_nf (x0 : List Bool) (x1 : List GSpan) (ρ : Type) (K : V → Heap Row → Option ρ) : evBody rowU impl_marked_E (bodyC 139) [.c (.sl 0 0), .c (.sl 1 0)] [⟨.row ⟨.bool, x0⟩, 0, 2⟩, ⟨.row ⟨.span, x1⟩, 0, 1⟩] K = impl_marked_K x0 x1 (fun r => K (.c (.bool r.1)) [⟨.row ⟨.bool, r.2⟩, 0, 2⟩, ⟨.row ⟨.span, x1⟩, 0, 1⟩]) := by kernel_rfl
def impl_marked_D : List V → Heap Row → Option (List Bool × List GSpan)
  | [.c (.sl 0 0), .c (.sl 1 0)], [⟨.row ⟨.bool, v1⟩, 0, 2⟩, ⟨.row ⟨.span, v2⟩, 0, 1⟩] => some (v1, v2)
  | _, _ => none
theorem impl_marked_D_ok {vs : List V} {W : Heap Row} {a : List Bool × List GSpan} (h : impl_marked_D vs W = some a) : vs = [.c (.sl 0 0), .c (.sl 1 0)] ∧ W = [⟨.row ⟨.bool, a.1⟩, 0, 2⟩, ⟨.row ⟨.span, a.2⟩, 0, 1⟩] := by
  unfold impl_marked_D at h
  split at h
  · simp at h; subst h; exact ⟨rfl, rfl⟩
  · simp at h
noncomputable def impl_marked_C : Callee Row := ⟨[(true, 0), (false, 0)], fun _ vs W K => (impl_marked_D vs W).bind fun a => (impl_marked a.1 a.2).bind fun r => K (.c (.bool r.1)) [⟨.row ⟨.bool, r.2⟩, 0, 2⟩, ⟨.row ⟨.span, a.2⟩, 0, 1⟩]⟩
theorem impl_marked_ok : CalleeOk Try.prog rowU 139 impl_marked_C := by
  refine calleeP (nl := false) (m0 := 2) (T := [(125, impl_in_C)]) (H := [(2, impl_marked_L2_H), (0, impl_marked_L0_H)]) (TabOk.cons impl_in_ok TabOk.nil) (by kernel_rfl) (by kernel_rfl) (fun p hp hb => by
    simp only [List.mem_cons, List.not_mem_nil, or_false] at hp
    rcases hp with rfl | rfl
    · exact impl_marked_L2_ok hb
    · exact impl_marked_L0_ok hb) fun ρ vs W K r h => ?_
  obtain ⟨a, ha, h1⟩ := Option.bind_eq_some_iff.1 h
  clear h
  obtain ⟨rfl, rfl⟩ := impl_marked_D_ok ha
  obtain ⟨q, hq, h2⟩ := Option.bind_eq_some_iff.1 h1
  exact ⟨_, _, h2, (impl_marked_nf (a.1) (a.2) _ _).trans ((impl_marked_bind (a.1) (a.2) _).trans (by rw [hq]; rfl))⟩
/-! loop.example/g00249/impl.HeapOk -/
noncomputable def impl_HeapOk_L0_K (l0 : List GWord) (l1 : List Bool) (l2 : List GSpan) (l3 : List GSpan) (l4 : List Bool) (l5 : List Bool) (n6 : Int) (n7 : Int) {ρ : Type} (A : Int → Option ρ) (X : Unit → Option ρ) (R : Unit → Option ρ) : Option ρ :=
  cond (decide (n7 < n6))
    (cond (decide (0 ≤ n7)) (cond (decide (n7 < (((l5.length : Nat) : Int)))) (cond ((List.getD l5 (n7.toNat) false) == true)
      (cond (decide (0 ≤ n7)) (cond (decide (n7 < (((l4.length : Nat) : Int)))) (cond ((List.getD l4 (n7.toNat) false) == false)
        (cond (decide (0 ≤ n7)) (cond (decide (n7 < (((l1.length : Nat) : Int)))) (cond (!((List.getD l5 (n7.toNat) false) == (List.getD l1 (n7.toNat) false)))
          (R ())
          (A (w64 (n7 + 1)))) none) none)
        (R ())) none) none)
      (cond (decide (0 ≤ n7)) (cond (decide (n7 < (((l1.length : Nat) : Int)))) (cond (!((List.getD l5 (n7.toNat) false) == (List.getD l1 (n7.toNat) false)))
        (R ())
        (A (w64 (n7 + 1)))) none) none)) none) none)
    (X ())
noncomputable def impl_HeapOk_L0_step (l0 : List GWord) (l1 : List Bool) (l2 : List GSpan) (l3 : List GSpan) (l4 : List Bool) (l5 : List Bool) (n6 : Int) (s : Int) : Option (Rnd (Int) (Unit) (Unit)) := impl_HeapOk_L0_K l0 l1 l2 l3 l4 l5 n6 s (fun s => some (.again s)) (fun t => some (.exit t)) (fun k => some (.ret k))
theorem impl_HeapOk_L0_bind (l0 : List GWord) (l1 : List Bool) (l2 : List GSpan) (l3 : List GSpan) (l4 : List Bool) (l5 : List Bool) (n6 : Int) (s : Int) {ρ : Type} (A : Int → Option ρ) (X : Unit → Option ρ) (R : Unit → Option ρ) : impl_HeapOk_L0_K l0 l1 l2 l3 l4 l5 n6 s A X R = (impl_HeapOk_L0_step l0 l1 l2 l3 l4 l5 n6 s).bind (rndE A X R) := by
  simp only [impl_HeapOk_L0_step, impl_HeapOk_L0_K, Option.bind_assoc, Option.bind_some, Option.bind_none, cond_bind, sumK_bind, rndE_again, rndE_exit, rndE_ret]
def impl_HeapOk_L0_st (p : List GWord × List Bool × List GSpan × List GSpan × List Bool × List Bool × Int) (s : Int) : List V × Heap Row := ([.c (.ptr 4 0), .c (.sl 5 0), .c (.sl 6 0), .c (.int .i64 (p.2.2.2.2.2.2)), .c (.int .i64 (s))], [⟨.row ⟨.word, p.1⟩, 0, 1⟩, ⟨.row ⟨.bool, p.2.1⟩, 0, 1⟩, ⟨.row ⟨.span, p.2.2.1⟩, 0, 1⟩, ⟨.row ⟨.span, p.2.2.2.1⟩, 0, 1⟩, ⟨.box [.sl 0 0, .sl 1 0, .sl 2 0, .sl 3 0], 0, 2⟩, ⟨.row ⟨.bool, p.2.2.2.2.1⟩, 0, 2⟩, ⟨.row ⟨.bool, p.2.2.2.2.2.1⟩, 0, 2⟩])
def impl_HeapOk_L0_so (p : List GWord × List Bool × List GSpan × List GSpan × List Bool × List Bool × Int) (t : Unit) : List V × Heap Row := ([], [⟨.row ⟨.word, p.1⟩, 0, 1⟩, ⟨.row ⟨.bool, p.2.1⟩, 0, 1⟩, ⟨.row ⟨.span, p.2.2.1⟩, 0, 1⟩, ⟨.row ⟨.span, p.2.2.2.1⟩, 0, 1⟩])
def impl_HeapOk_L0_sr (p : List GWord × List Bool × List GSpan × List GSpan × List Bool × List Bool × Int) (k : Unit) : List V × Heap Row := ([.c (.bool false)], [⟨.row ⟨.word, p.1⟩, 0, 1⟩, ⟨.row ⟨.bool, p.2.1⟩, 0, 1⟩, ⟨.row ⟨.span, p.2.2.1⟩, 0, 1⟩, ⟨.row ⟨.span, p.2.2.2.1⟩, 0, 1⟩])
def impl_HeapOk_L0_D : List V → Heap Row → Option ((List GWord × List Bool × List GSpan × List GSpan × List Bool × List Bool × Int) × (Int))
  | [.c (.ptr 4 0), .c (.sl 5 0), .c (.sl 6 0), .c (.int .i64 v1), .c (.int .i64 v2)], [⟨.row ⟨.word, v3⟩, 0, 1⟩, ⟨.row ⟨.bool, v4⟩, 0, 1⟩, ⟨.row ⟨.span, v5⟩, 0, 1⟩, ⟨.row ⟨.span, v6⟩, 0, 1⟩, ⟨.box [.sl 0 0, .sl 1 0, .sl 2 0, .sl 3 0], 0, 2⟩, ⟨.row ⟨.bool, v7⟩, 0, 2⟩, ⟨.row ⟨.bool, v8⟩, 0, 2⟩] => some ((v3, v4, v5, v6, v7, v8, v1), (v2))
  | _, _ => none
theorem impl_HeapOk_L0_D_ok (vs : List V) (L : Heap Row) (p : List GWord × List Bool × List GSpan × List GSpan × List Bool × List Bool × Int) (s : Int) (h : impl_HeapOk_L0_D vs L = some (p, s)) : impl_HeapOk_L0_st p s = (vs, L) := by
  unfold impl_HeapOk_L0_D at h
  split at h
  · simp at h; obtain ⟨rfl, rfl⟩ := h; rfl
  · simp at h
noncomputable def impl_HeapOk_L0_H : LoopH Row := loopR [1, 4, 27, 28, 29] [] impl_HeapOk_L0_D (fun p => impl_HeapOk_L0_step (p.1) (p.2.1) (p.2.2.1) (p.2.2.2.1) (p.2.2.2.2.1) (p.2.2.2.2.2.1) (p.2.2.2.2.2.2)) impl_HeapOk_L0_so impl_HeapOk_L0_sr
theorem impl_HeapOk_L0_nf (p : List GWord × List Bool × List GSpan × List GSpan × List Bool × List Bool × Int) (s : Int) (ρ : Type) (again Kx Kr : List V → Heap Row → Option ρ) : evRound rowU (envOf 40 4 [(31, impl_MemoryOk_C), (139, impl_marked_C)] [(0, impl_HeapOk_L0_H)]) 0 impl_HeapOk_L0_H (loopC 40 0) again (impl_HeapOk_L0_st p s).1 (impl_HeapOk_L0_st p s).2 Kx Kr = impl_HeapOk_L0_K (p.1) (p.2.1) (p.2.2.1) (p.2.2.2.1) (p.2.2.2.2.1) (p.2.2.2.2.2.1) (p.2.2.2.2.2.2) s (fun s => again (impl_HeapOk_L0_st p s).1 (impl_HeapOk_L0_st p s).2) (fun t => Kx (impl_HeapOk_L0_so p t).1 (impl_HeapOk_L0_so p t).2) (fun k => Kr (impl_HeapOk_L0_sr p k).1 (impl_HeapOk_L0_sr p k).2) := by kernel_rfl
theorem impl_HeapOk_L0_ok (hb : LoopsOk Try.prog rowU (envOf 40 4 [(31, impl_MemoryOk_C), (139, impl_marked_C)] [(0, impl_HeapOk_L0_H)]) (loopAt (codeP 40) 0)) : LoopOk Try.prog rowU (envOf 40 4 [(31, impl_MemoryOk_C), (139, impl_marked_C)] [(0, impl_HeapOk_L0_H)]) 0 (loopAt (codeP 40) 0) impl_HeapOk_L0_H :=
  loopR_ok tagOk mixed envNl (envT (TabOk.cons impl_MemoryOk_ok (TabOk.cons impl_marked_ok TabOk.nil))) hb impl_HeapOk_L0_st impl_HeapOk_L0_D_ok fun p s ρ A Kx Kr => (impl_HeapOk_L0_nf p s ρ A Kx Kr).trans (impl_HeapOk_L0_bind (p.1) (p.2.1) (p.2.2.1) (p.2.2.2.1) (p.2.2.2.2.1) (p.2.2.2.2.2.1) (p.2.2.2.2.2.2) s _ _ _)
noncomputable def impl_HeapOk_K (x0 : GHeap) {ρ : Type} (K : Bool → Option ρ) : Option ρ :=
  Option.bind (impl_MemoryOk x0.mem) fun r1 =>
  cond ((!r1) == false)
    (Option.bind (impl_marked (List.replicate 24 false) x0.waits) fun r2 =>
    cond ((!r2.1) == false)
      (Option.bind (impl_marked (List.replicate 24 false) x0.live) fun r3 =>
      cond (!r3.1)
        (K false)
        (Option.bind (runL (impl_HeapOk_L0_step x0.mem.words x0.mem.gone x0.live x0.waits r3.2 r2.2 (((r2.2.length : Nat) : Int))) 0) fun ot4 => sumK ot4
          (fun t4 => K true)
          (fun k5 => K false)))
      (K false))
    (K false)
noncomputable def impl_HeapOk (x0 : GHeap) : Option (Bool) := impl_HeapOk_K x0 some
theorem impl_HeapOk_bind (x0 : GHeap) {ρ : Type} (K : Bool → Option ρ) : impl_HeapOk_K x0 K = (impl_HeapOk x0).bind K := by
  simp only [impl_HeapOk, impl_HeapOk_K, Option.bind_assoc, Option.bind_some, Option.bind_none, cond_bind, sumK_bind]
noncomputable def impl_HeapOk_E : Env Row := envN false 40 4 [(31, impl_MemoryOk_C), (139, impl_marked_C)] [(0, impl_HeapOk_L0_H)]
theorem impl_HeapOk_nf (x0 : GHeap) (ρ : Type) (K : V → Heap Row → Option ρ) : evBody rowU impl_HeapOk_E (bodyC 40) [.a [.sl 0 0, .sl 1 0, .sl 2 0, .sl 3 0]] [⟨.row ⟨.word, x0.mem.words⟩, 0, 1⟩, ⟨.row ⟨.bool, x0.mem.gone⟩, 0, 1⟩, ⟨.row ⟨.span, x0.live⟩, 0, 1⟩, ⟨.row ⟨.span, x0.waits⟩, 0, 1⟩] K = impl_HeapOk_K x0 (fun r => K (.c (.bool r)) [⟨.row ⟨.word, x0.mem.words⟩, 0, 1⟩, ⟨.row ⟨.bool, x0.mem.gone⟩, 0, 1⟩, ⟨.row ⟨.span, x0.live⟩, 0, 1⟩, ⟨.row ⟨.span, x0.waits⟩, 0, 1⟩]) := by kernel_rfl
def impl_HeapOk_D : List V → Heap Row → Option (GHeap)
  | [.a (.sl 0 0 :: .sl 1 0 :: .sl 2 0 :: .sl 3 0 :: [])], [⟨.row ⟨.word, v1⟩, 0, 1⟩, ⟨.row ⟨.bool, v2⟩, 0, 1⟩, ⟨.row ⟨.span, v3⟩, 0, 1⟩, ⟨.row ⟨.span, v4⟩, 0, 1⟩] => some (⟨⟨v1, v2⟩, v3, v4⟩)
  | _, _ => none
theorem impl_HeapOk_D_ok {vs : List V} {W : Heap Row} {a : GHeap} (h : impl_HeapOk_D vs W = some a) : vs = [.a [.sl 0 0, .sl 1 0, .sl 2 0, .sl 3 0]] ∧ W = [⟨.row ⟨.word, (a).mem.words⟩, 0, 1⟩, ⟨.row ⟨.bool, (a).mem.gone⟩, 0, 1⟩, ⟨.row ⟨.span, (a).live⟩, 0, 1⟩, ⟨.row ⟨.span, (a).waits⟩, 0, 1⟩] := by
  unfold impl_HeapOk_D at h
  split at h
  · simp at h; subst h; exact ⟨rfl, rfl⟩
  · simp at h
noncomputable def impl_HeapOk_C : Callee Row := ⟨[(false, 0), (false, 0), (false, 0), (false, 0)], fun _ vs W K => (impl_HeapOk_D vs W).bind fun a => (impl_HeapOk a).bind fun r => K (.c (.bool r)) [⟨.row ⟨.word, (a).mem.words⟩, 0, 1⟩, ⟨.row ⟨.bool, (a).mem.gone⟩, 0, 1⟩, ⟨.row ⟨.span, (a).live⟩, 0, 1⟩, ⟨.row ⟨.span, (a).waits⟩, 0, 1⟩]⟩
theorem impl_HeapOk_ok : CalleeOk Try.prog rowU 40 impl_HeapOk_C := by
  refine calleeP (nl := false) (m0 := 4) (T := [(31, impl_MemoryOk_C), (139, impl_marked_C)]) (H := [(0, impl_HeapOk_L0_H)]) (TabOk.cons impl_MemoryOk_ok (TabOk.cons impl_marked_ok TabOk.nil)) (by kernel_rfl) (by kernel_rfl) (fun p hp hb => by
    simp only [List.mem_cons, List.not_mem_nil, or_false] at hp
    subst hp
    exact impl_HeapOk_L0_ok hb) fun ρ vs W K r h => ?_
  obtain ⟨a, ha, h1⟩ := Option.bind_eq_some_iff.1 h
  clear h
  obtain ⟨rfl, rfl⟩ := impl_HeapOk_D_ok ha
  obtain ⟨q, hq, h2⟩ := Option.bind_eq_some_iff.1 h1
  exact ⟨_, _, h2, (impl_HeapOk_nf a _ _).trans ((impl_HeapOk_bind a _).trans (by rw [hq]; rfl))⟩
/-! loop.example/g00249/laws.inOne -/
noncomputable def laws_inOne_L0_K (l0 : List GSpan) (n1 : Int) (n2 : Int) (n3 : Int) (n4 : Int) (n5 : Int) {ρ : Type} (A : Int → Option ρ) (X : Unit → Option ρ) (R : Unit → Option ρ) : Option ρ :=
  cond (decide (n5 < (((l0.length : Nat) : Int))))
    (cond (decide (0 ≤ n5)) (cond (decide (n5 < (((l0.length : Nat) : Int)))) (cond ((decide (n1 ≥ (List.getD l0 (n5.toNat) (default)).at_)) == true)
      (cond (decide (0 ≤ n5)) (cond (decide (n5 < (((l0.length : Nat) : Int)))) (cond (decide (0 ≤ n5)) (cond (decide (n5 < (((l0.length : Nat) : Int)))) (cond (decide (n2 ≤ (w64 ((List.getD l0 (n5.toNat) (default)).at_ + (List.getD l0 (n5.toNat) (default)).len))))
        (R ())
        (A (w64 (n5 + 1)))) none) none) none) none)
      (A (w64 (n5 + 1)))) none) none)
    (X ())
noncomputable def laws_inOne_L0_step (l0 : List GSpan) (n1 : Int) (n2 : Int) (n3 : Int) (n4 : Int) (s : Int) : Option (Rnd (Int) (Unit) (Unit)) := laws_inOne_L0_K l0 n1 n2 n3 n4 s (fun s => some (.again s)) (fun t => some (.exit t)) (fun k => some (.ret k))
theorem laws_inOne_L0_bind (l0 : List GSpan) (n1 : Int) (n2 : Int) (n3 : Int) (n4 : Int) (s : Int) {ρ : Type} (A : Int → Option ρ) (X : Unit → Option ρ) (R : Unit → Option ρ) : laws_inOne_L0_K l0 n1 n2 n3 n4 s A X R = (laws_inOne_L0_step l0 n1 n2 n3 n4 s).bind (rndE A X R) := by
  simp only [laws_inOne_L0_step, laws_inOne_L0_K, Option.bind_assoc, Option.bind_some, Option.bind_none, cond_bind, sumK_bind, rndE_again, rndE_exit, rndE_ret]
def laws_inOne_L0_st (p : List GSpan × Int × Int × Int × Int) (s : Int) : List V × Heap Row := ([.c (.sl 0 0), .c (.ptr 1 0), .c (.int .i64 (s))], [⟨.row ⟨.span, p.1⟩, 0, 1⟩, ⟨.box [.int .i64 (p.2.1), .int .i64 (p.2.2.1), .int .i64 (p.2.2.2.1), .int .i64 (p.2.2.2.2)], 0, 2⟩])
def laws_inOne_L0_so (p : List GSpan × Int × Int × Int × Int) (t : Unit) : List V × Heap Row := ([], [⟨.row ⟨.span, p.1⟩, 0, 1⟩])
def laws_inOne_L0_sr (p : List GSpan × Int × Int × Int × Int) (k : Unit) : List V × Heap Row := ([.c (.bool true)], [⟨.row ⟨.span, p.1⟩, 0, 1⟩])
def laws_inOne_L0_D : List V → Heap Row → Option ((List GSpan × Int × Int × Int × Int) × (Int))
  | [.c (.sl 0 0), .c (.ptr 1 0), .c (.int .i64 v1)], [⟨.row ⟨.span, v2⟩, 0, 1⟩, ⟨.box [.int .i64 v3, .int .i64 v4, .int .i64 v5, .int .i64 v6], 0, 2⟩] => some ((v2, v3, v4, v5, v6), (v1))
  | _, _ => none
theorem laws_inOne_L0_D_ok (vs : List V) (L : Heap Row) (p : List GSpan × Int × Int × Int × Int) (s : Int) (h : laws_inOne_L0_D vs L = some (p, s)) : laws_inOne_L0_st p s = (vs, L) := by
  unfold laws_inOne_L0_D at h
  split at h
  · simp at h; obtain ⟨rfl, rfl⟩ := h; rfl
  · simp at h
noncomputable def laws_inOne_L0_H : LoopH Row := loopR [0, 3, 5] [] laws_inOne_L0_D (fun p => laws_inOne_L0_step (p.1) (p.2.1) (p.2.2.1) (p.2.2.2.1) (p.2.2.2.2)) laws_inOne_L0_so laws_inOne_L0_sr
theorem laws_inOne_L0_nf (p : List GSpan × Int × Int × Int × Int) (s : Int) (ρ : Type) (again Kx Kr : List V → Heap Row → Option ρ) : evRound rowU (envOf 41 1 [] [(0, laws_inOne_L0_H)]) 0 laws_inOne_L0_H (loopC 41 0) again (laws_inOne_L0_st p s).1 (laws_inOne_L0_st p s).2 Kx Kr = laws_inOne_L0_K (p.1) (p.2.1) (p.2.2.1) (p.2.2.2.1) (p.2.2.2.2) s (fun s => again (laws_inOne_L0_st p s).1 (laws_inOne_L0_st p s).2) (fun t => Kx (laws_inOne_L0_so p t).1 (laws_inOne_L0_so p t).2) (fun k => Kr (laws_inOne_L0_sr p k).1 (laws_inOne_L0_sr p k).2) := by kernel_rfl
theorem laws_inOne_L0_ok (hb : LoopsOk Try.prog rowU (envOf 41 1 [] [(0, laws_inOne_L0_H)]) (loopAt (codeP 41) 0)) : LoopOk Try.prog rowU (envOf 41 1 [] [(0, laws_inOne_L0_H)]) 0 (loopAt (codeP 41) 0) laws_inOne_L0_H :=
  loopR_ok tagOk mixed envNl (envT TabOk.nil) hb laws_inOne_L0_st laws_inOne_L0_D_ok fun p s ρ A Kx Kr => (laws_inOne_L0_nf p s ρ A Kx Kr).trans (laws_inOne_L0_bind (p.1) (p.2.1) (p.2.2.1) (p.2.2.2.1) (p.2.2.2.2) s _ _ _)
noncomputable def laws_inOne_K (x0 : List GSpan) (x1 : GKey) {ρ : Type} (K : Bool → Option ρ) : Option ρ :=
  cond (decide (x1.base ≥ x1.top))
    (K true)
    (Option.bind (runL (laws_inOne_L0_step x0 x1.base x1.top x1.perms x1.seal_) 0) fun ot1 => sumK ot1
      (fun t1 => K false)
      (fun k2 => K true))
noncomputable def laws_inOne (x0 : List GSpan) (x1 : GKey) : Option (Bool) := laws_inOne_K x0 x1 some
theorem laws_inOne_bind (x0 : List GSpan) (x1 : GKey) {ρ : Type} (K : Bool → Option ρ) : laws_inOne_K x0 x1 K = (laws_inOne x0 x1).bind K := by
  simp only [laws_inOne, laws_inOne_K, Option.bind_assoc, Option.bind_some, Option.bind_none, cond_bind, sumK_bind]
noncomputable def laws_inOne_E : Env Row := envN false 41 1 [] [(0, laws_inOne_L0_H)]
theorem laws_inOne_nf (x0 : List GSpan) (x1 : GKey) (ρ : Type) (K : V → Heap Row → Option ρ) : evBody rowU laws_inOne_E (bodyC 41) [.c (.sl 0 0), .a [.int .i64 x1.base, .int .i64 x1.top, .int .i64 x1.perms, .int .i64 x1.seal_]] [⟨.row ⟨.span, x0⟩, 0, 1⟩] K = laws_inOne_K x0 x1 (fun r => K (.c (.bool r)) [⟨.row ⟨.span, x0⟩, 0, 1⟩]) := by kernel_rfl
def laws_inOne_D : List V → Heap Row → Option (List GSpan × GKey)
  | [.c (.sl 0 0), .a (.int .i64 v1 :: .int .i64 v2 :: .int .i64 v3 :: .int .i64 v4 :: [])], [⟨.row ⟨.span, v5⟩, 0, 1⟩] => some (v5, ⟨v1, v2, v3, v4⟩)
  | _, _ => none
theorem laws_inOne_D_ok {vs : List V} {W : Heap Row} {a : List GSpan × GKey} (h : laws_inOne_D vs W = some a) : vs = [.c (.sl 0 0), .a [.int .i64 (a.2).base, .int .i64 (a.2).top, .int .i64 (a.2).perms, .int .i64 (a.2).seal_]] ∧ W = [⟨.row ⟨.span, a.1⟩, 0, 1⟩] := by
  unfold laws_inOne_D at h
  split at h
  · simp at h; subst h; exact ⟨rfl, rfl⟩
  · simp at h
noncomputable def laws_inOne_C : Callee Row := ⟨[(false, 0)], fun _ vs W K => (laws_inOne_D vs W).bind fun a => (laws_inOne a.1 a.2).bind fun r => K (.c (.bool r)) [⟨.row ⟨.span, a.1⟩, 0, 1⟩]⟩
theorem laws_inOne_ok : CalleeOk Try.prog rowU 41 laws_inOne_C := by
  refine calleeP (nl := false) (m0 := 1) (T := []) (H := [(0, laws_inOne_L0_H)]) TabOk.nil (by kernel_rfl) (by kernel_rfl) (fun p hp hb => by
    simp only [List.mem_cons, List.not_mem_nil, or_false] at hp
    subst hp
    exact laws_inOne_L0_ok hb) fun ρ vs W K r h => ?_
  obtain ⟨a, ha, h1⟩ := Option.bind_eq_some_iff.1 h
  clear h
  obtain ⟨rfl, rfl⟩ := laws_inOne_D_ok ha
  obtain ⟨q, hq, h2⟩ := Option.bind_eq_some_iff.1 h1
  exact ⟨_, _, h2, (laws_inOne_nf (a.1) (a.2) _ _).trans ((laws_inOne_bind (a.1) (a.2) _).trans (by rw [hq]; rfl))⟩
/-! slices.Clone[[]loop.example/g00249/impl.Word,loop.example/g00249/impl.Word] -/
def slices_Clone_K (x0 : List GWord) {ρ : Type} (K : List GWord → Option ρ) : Option ρ :=
  cond (decide (((0 + (x0.length)) * 48) ≤ 140737488355328)) (K ([] ++ x0)) none
def slices_Clone (x0 : List GWord) : Option (List GWord) := slices_Clone_K x0 some
theorem slices_Clone_bind (x0 : List GWord) {ρ : Type} (K : List GWord → Option ρ) : slices_Clone_K x0 K = (slices_Clone x0).bind K := by
  simp only [slices_Clone, slices_Clone_K, Option.bind_assoc, Option.bind_some, Option.bind_none, cond_bind, sumK_bind]
noncomputable def slices_Clone_E : Env Row := envN true 141 1 [] []
theorem slices_Clone_nf (x0 : List GWord) (ρ : Type) (K : V → Heap Row → Option ρ) : evBody rowU slices_Clone_E (bodyC 141) [.c (.sl 0 0)] [⟨.row ⟨.word, x0⟩, 0, 1⟩] K = slices_Clone_K x0 (fun r => K (.c (.sl 1 0)) [⟨.row ⟨.word, x0⟩, 0, 1⟩, ⟨.row ⟨.word, r⟩, 0, 2⟩]) := by
  refine Eq.trans (b := nilB (x0.length) (K (.c (.sl 1 0)) [⟨.row ⟨.word, x0⟩, 0, 1⟩, ⟨.row ⟨.word, []⟩, 0, 2⟩]) (cond (decide (((0 + (x0.length)) * 48) ≤ 140737488355328)) (K (.c (.sl 1 0)) [⟨.row ⟨.word, x0⟩, 0, 1⟩, ⟨.row ⟨.word, [] ++ x0⟩, 0, 2⟩]) none)) (by kernel_rfl) ?_
  cases x0 with
  | nil => exact nilB_zero _ _ rfl
  | cons y ys => exact nilB_succ _ _ _
def slices_Clone_D : List V → Heap Row → Option (List GWord)
  | [.c (.sl 0 0)], [⟨.row ⟨.word, v1⟩, 0, 1⟩] => some (v1)
  | _, _ => none
theorem slices_Clone_D_ok {vs : List V} {W : Heap Row} {a : List GWord} (h : slices_Clone_D vs W = some a) : vs = [.c (.sl 0 0)] ∧ W = [⟨.row ⟨.word, a⟩, 0, 1⟩] := by
  unfold slices_Clone_D at h
  split at h
  · simp at h; subst h; exact ⟨rfl, rfl⟩
  · simp at h
def slices_Clone_C : Callee Row := ⟨[(false, 0)], fun _ vs W K => (slices_Clone_D vs W).bind fun a => (slices_Clone a).bind fun r => K (.c (.sl 1 0)) [⟨.row ⟨.word, a⟩, 0, 1⟩, ⟨.row ⟨.word, r⟩, 0, 2⟩]⟩
theorem slices_Clone_ok : CalleeOk Try.prog rowU 141 slices_Clone_C := by
  refine calleeP (nl := true) (m0 := 1) (T := []) (H := []) TabOk.nil (by kernel_rfl) (by kernel_rfl) (fun p hp => nomatch hp) fun ρ vs W K r h => ?_
  obtain ⟨a, ha, h1⟩ := Option.bind_eq_some_iff.1 h
  clear h
  obtain ⟨rfl, rfl⟩ := slices_Clone_D_ok ha
  obtain ⟨q, hq, h2⟩ := Option.bind_eq_some_iff.1 h1
  exact ⟨_, _, h2, (slices_Clone_nf a _ _).trans ((slices_Clone_bind a _).trans (by rw [hq]; rfl))⟩
/-! slices.Clone[[]bool,bool] -/
def slices_Clone_259_K (x0 : List Bool) {ρ : Type} (K : List Bool → Option ρ) : Option ρ :=
  cond (decide (((0 + (x0.length)) * 1) ≤ 140737488355328)) (K ([] ++ x0)) none
def slices_Clone_259 (x0 : List Bool) : Option (List Bool) := slices_Clone_259_K x0 some
theorem slices_Clone_259_bind (x0 : List Bool) {ρ : Type} (K : List Bool → Option ρ) : slices_Clone_259_K x0 K = (slices_Clone_259 x0).bind K := by
  simp only [slices_Clone_259, slices_Clone_259_K, Option.bind_assoc, Option.bind_some, Option.bind_none, cond_bind, sumK_bind]
noncomputable def slices_Clone_259_E : Env Row := envN true 259 1 [] []
theorem slices_Clone_259_nf (x0 : List Bool) (ρ : Type) (K : V → Heap Row → Option ρ) : evBody rowU slices_Clone_259_E (bodyC 259) [.c (.sl 0 0)] [⟨.row ⟨.bool, x0⟩, 0, 1⟩] K = slices_Clone_259_K x0 (fun r => K (.c (.sl 1 0)) [⟨.row ⟨.bool, x0⟩, 0, 1⟩, ⟨.row ⟨.bool, r⟩, 0, 2⟩]) := by
  refine Eq.trans (b := nilB (x0.length) (K (.c (.sl 1 0)) [⟨.row ⟨.bool, x0⟩, 0, 1⟩, ⟨.row ⟨.bool, []⟩, 0, 2⟩]) (cond (decide (((0 + (x0.length)) * 1) ≤ 140737488355328)) (K (.c (.sl 1 0)) [⟨.row ⟨.bool, x0⟩, 0, 1⟩, ⟨.row ⟨.bool, [] ++ x0⟩, 0, 2⟩]) none)) (by kernel_rfl) ?_
  cases x0 with
  | nil => exact nilB_zero _ _ rfl
  | cons y ys => exact nilB_succ _ _ _
def slices_Clone_259_D : List V → Heap Row → Option (List Bool)
  | [.c (.sl 0 0)], [⟨.row ⟨.bool, v1⟩, 0, 1⟩] => some (v1)
  | _, _ => none
theorem slices_Clone_259_D_ok {vs : List V} {W : Heap Row} {a : List Bool} (h : slices_Clone_259_D vs W = some a) : vs = [.c (.sl 0 0)] ∧ W = [⟨.row ⟨.bool, a⟩, 0, 1⟩] := by
  unfold slices_Clone_259_D at h
  split at h
  · simp at h; subst h; exact ⟨rfl, rfl⟩
  · simp at h
def slices_Clone_259_C : Callee Row := ⟨[(false, 0)], fun _ vs W K => (slices_Clone_259_D vs W).bind fun a => (slices_Clone_259 a).bind fun r => K (.c (.sl 1 0)) [⟨.row ⟨.bool, a⟩, 0, 1⟩, ⟨.row ⟨.bool, r⟩, 0, 2⟩]⟩
theorem slices_Clone_259_ok : CalleeOk Try.prog rowU 259 slices_Clone_259_C := by
  refine calleeP (nl := true) (m0 := 1) (T := []) (H := []) TabOk.nil (by kernel_rfl) (by kernel_rfl) (fun p hp => nomatch hp) fun ρ vs W K r h => ?_
  obtain ⟨a, ha, h1⟩ := Option.bind_eq_some_iff.1 h
  clear h
  obtain ⟨rfl, rfl⟩ := slices_Clone_259_D_ok ha
  obtain ⟨q, hq, h2⟩ := Option.bind_eq_some_iff.1 h1
  exact ⟨_, _, h2, (slices_Clone_259_nf a _ _).trans ((slices_Clone_259_bind a _).trans (by rw [hq]; rfl))⟩
/-! loop.example/g00249/impl.cloneMemory -/
def impl_cloneMemory_K (x0 : GMemory) {ρ : Type} (K : GMemory → Option ρ) : Option ρ :=
  Option.bind (slices_Clone x0.words) fun r1 =>
  Option.bind (slices_Clone_259 x0.gone) fun r2 =>
  K (⟨r1, r2⟩ : GMemory)
def impl_cloneMemory (x0 : GMemory) : Option (GMemory) := impl_cloneMemory_K x0 some
theorem impl_cloneMemory_bind (x0 : GMemory) {ρ : Type} (K : GMemory → Option ρ) : impl_cloneMemory_K x0 K = (impl_cloneMemory x0).bind K := by
  simp only [impl_cloneMemory, impl_cloneMemory_K, Option.bind_assoc, Option.bind_some, Option.bind_none, cond_bind, sumK_bind]
noncomputable def impl_cloneMemory_E : Env Row := envN false 215 2 [(141, slices_Clone_C), (259, slices_Clone_259_C)] []
theorem impl_cloneMemory_nf (x0 : GMemory) (ρ : Type) (K : V → Heap Row → Option ρ) : evBody rowU impl_cloneMemory_E (bodyC 215) [.a [.sl 0 0, .sl 1 0]] [⟨.row ⟨.word, x0.words⟩, 0, 1⟩, ⟨.row ⟨.bool, x0.gone⟩, 0, 1⟩] K = impl_cloneMemory_K x0 (fun r => K (.a [.sl 2 0, .sl 3 0]) [⟨.row ⟨.word, x0.words⟩, 0, 1⟩, ⟨.row ⟨.bool, x0.gone⟩, 0, 1⟩, ⟨.row ⟨.word, r.words⟩, 0, 2⟩, ⟨.row ⟨.bool, r.gone⟩, 0, 2⟩]) := by kernel_rfl
def impl_cloneMemory_D : List V → Heap Row → Option (GMemory)
  | [.a (.sl 0 0 :: .sl 1 0 :: [])], [⟨.row ⟨.word, v1⟩, 0, 1⟩, ⟨.row ⟨.bool, v2⟩, 0, 1⟩] => some (⟨v1, v2⟩)
  | _, _ => none
theorem impl_cloneMemory_D_ok {vs : List V} {W : Heap Row} {a : GMemory} (h : impl_cloneMemory_D vs W = some a) : vs = [.a [.sl 0 0, .sl 1 0]] ∧ W = [⟨.row ⟨.word, (a).words⟩, 0, 1⟩, ⟨.row ⟨.bool, (a).gone⟩, 0, 1⟩] := by
  unfold impl_cloneMemory_D at h
  split at h
  · simp at h; subst h; exact ⟨rfl, rfl⟩
  · simp at h
def impl_cloneMemory_C : Callee Row := ⟨[(false, 0), (false, 0)], fun _ vs W K => (impl_cloneMemory_D vs W).bind fun a => (impl_cloneMemory a).bind fun r => K (.a [.sl 2 0, .sl 3 0]) [⟨.row ⟨.word, (a).words⟩, 0, 1⟩, ⟨.row ⟨.bool, (a).gone⟩, 0, 1⟩, ⟨.row ⟨.word, r.words⟩, 0, 2⟩, ⟨.row ⟨.bool, r.gone⟩, 0, 2⟩]⟩
theorem impl_cloneMemory_ok : CalleeOk Try.prog rowU 215 impl_cloneMemory_C := by
  refine calleeP (nl := false) (m0 := 2) (T := [(141, slices_Clone_C), (259, slices_Clone_259_C)]) (H := []) (TabOk.cons slices_Clone_ok (TabOk.cons slices_Clone_259_ok TabOk.nil)) (by kernel_rfl) (by kernel_rfl) (fun p hp => nomatch hp) fun ρ vs W K r h => ?_
  obtain ⟨a, ha, h1⟩ := Option.bind_eq_some_iff.1 h
  clear h
  obtain ⟨rfl, rfl⟩ := impl_cloneMemory_D_ok ha
  obtain ⟨q, hq, h2⟩ := Option.bind_eq_some_iff.1 h1
  exact ⟨_, _, h2, (impl_cloneMemory_nf a _ _).trans ((impl_cloneMemory_bind a _).trans (by rw [hq]; rfl))⟩
/-! slices.Clone[[]loop.example/g00249/impl.Span,loop.example/g00249/impl.Span] -/
def slices_Clone_216_K (x0 : List GSpan) {ρ : Type} (K : List GSpan → Option ρ) : Option ρ :=
  cond (decide (((0 + (x0.length)) * 16) ≤ 140737488355328)) (K ([] ++ x0)) none
def slices_Clone_216 (x0 : List GSpan) : Option (List GSpan) := slices_Clone_216_K x0 some
theorem slices_Clone_216_bind (x0 : List GSpan) {ρ : Type} (K : List GSpan → Option ρ) : slices_Clone_216_K x0 K = (slices_Clone_216 x0).bind K := by
  simp only [slices_Clone_216, slices_Clone_216_K, Option.bind_assoc, Option.bind_some, Option.bind_none, cond_bind, sumK_bind]
noncomputable def slices_Clone_216_E : Env Row := envN true 216 1 [] []
theorem slices_Clone_216_nf (x0 : List GSpan) (ρ : Type) (K : V → Heap Row → Option ρ) : evBody rowU slices_Clone_216_E (bodyC 216) [.c (.sl 0 0)] [⟨.row ⟨.span, x0⟩, 0, 1⟩] K = slices_Clone_216_K x0 (fun r => K (.c (.sl 1 0)) [⟨.row ⟨.span, x0⟩, 0, 1⟩, ⟨.row ⟨.span, r⟩, 0, 2⟩]) := by
  refine Eq.trans (b := nilB (x0.length) (K (.c (.sl 1 0)) [⟨.row ⟨.span, x0⟩, 0, 1⟩, ⟨.row ⟨.span, []⟩, 0, 2⟩]) (cond (decide (((0 + (x0.length)) * 16) ≤ 140737488355328)) (K (.c (.sl 1 0)) [⟨.row ⟨.span, x0⟩, 0, 1⟩, ⟨.row ⟨.span, [] ++ x0⟩, 0, 2⟩]) none)) (by kernel_rfl) ?_
  cases x0 with
  | nil => exact nilB_zero _ _ rfl
  | cons y ys => exact nilB_succ _ _ _
def slices_Clone_216_D : List V → Heap Row → Option (List GSpan)
  | [.c (.sl 0 0)], [⟨.row ⟨.span, v1⟩, 0, 1⟩] => some (v1)
  | _, _ => none
theorem slices_Clone_216_D_ok {vs : List V} {W : Heap Row} {a : List GSpan} (h : slices_Clone_216_D vs W = some a) : vs = [.c (.sl 0 0)] ∧ W = [⟨.row ⟨.span, a⟩, 0, 1⟩] := by
  unfold slices_Clone_216_D at h
  split at h
  · simp at h; subst h; exact ⟨rfl, rfl⟩
  · simp at h
def slices_Clone_216_C : Callee Row := ⟨[(false, 0)], fun _ vs W K => (slices_Clone_216_D vs W).bind fun a => (slices_Clone_216 a).bind fun r => K (.c (.sl 1 0)) [⟨.row ⟨.span, a⟩, 0, 1⟩, ⟨.row ⟨.span, r⟩, 0, 2⟩]⟩
theorem slices_Clone_216_ok : CalleeOk Try.prog rowU 216 slices_Clone_216_C := by
  refine calleeP (nl := true) (m0 := 1) (T := []) (H := []) TabOk.nil (by kernel_rfl) (by kernel_rfl) (fun p hp => nomatch hp) fun ρ vs W K r h => ?_
  obtain ⟨a, ha, h1⟩ := Option.bind_eq_some_iff.1 h
  clear h
  obtain ⟨rfl, rfl⟩ := slices_Clone_216_D_ok ha
  obtain ⟨q, hq, h2⟩ := Option.bind_eq_some_iff.1 h1
  exact ⟨_, _, h2, (slices_Clone_216_nf a _ _).trans ((slices_Clone_216_bind a _).trans (by rw [hq]; rfl))⟩
/-! loop.example/g00249/impl.cloneHeap -/
def impl_cloneHeap_K (x0 : GHeap) {ρ : Type} (K : GHeap → Option ρ) : Option ρ :=
  Option.bind (impl_cloneMemory x0.mem) fun r1 =>
  Option.bind (slices_Clone_216 x0.live) fun r2 =>
  Option.bind (slices_Clone_216 x0.waits) fun r3 =>
  K (⟨r1, r2, r3⟩ : GHeap)
def impl_cloneHeap (x0 : GHeap) : Option (GHeap) := impl_cloneHeap_K x0 some
theorem impl_cloneHeap_bind (x0 : GHeap) {ρ : Type} (K : GHeap → Option ρ) : impl_cloneHeap_K x0 K = (impl_cloneHeap x0).bind K := by
  simp only [impl_cloneHeap, impl_cloneHeap_K, Option.bind_assoc, Option.bind_some, Option.bind_none, cond_bind, sumK_bind]
noncomputable def impl_cloneHeap_E : Env Row := envN false 140 4 [(215, impl_cloneMemory_C), (216, slices_Clone_216_C)] []
theorem impl_cloneHeap_nf (x0 : GHeap) (ρ : Type) (K : V → Heap Row → Option ρ) : evBody rowU impl_cloneHeap_E (bodyC 140) [.a [.sl 0 0, .sl 1 0, .sl 2 0, .sl 3 0]] [⟨.row ⟨.word, x0.mem.words⟩, 0, 1⟩, ⟨.row ⟨.bool, x0.mem.gone⟩, 0, 1⟩, ⟨.row ⟨.span, x0.live⟩, 0, 1⟩, ⟨.row ⟨.span, x0.waits⟩, 0, 1⟩] K = impl_cloneHeap_K x0 (fun r => K (.a [.sl 4 0, .sl 5 0, .sl 6 0, .sl 7 0]) [⟨.row ⟨.word, x0.mem.words⟩, 0, 1⟩, ⟨.row ⟨.bool, x0.mem.gone⟩, 0, 1⟩, ⟨.row ⟨.span, x0.live⟩, 0, 1⟩, ⟨.row ⟨.span, x0.waits⟩, 0, 1⟩, ⟨.row ⟨.word, r.mem.words⟩, 0, 2⟩, ⟨.row ⟨.bool, r.mem.gone⟩, 0, 2⟩, ⟨.row ⟨.span, r.live⟩, 0, 2⟩, ⟨.row ⟨.span, r.waits⟩, 0, 2⟩]) := by kernel_rfl
def impl_cloneHeap_D : List V → Heap Row → Option (GHeap)
  | [.a (.sl 0 0 :: .sl 1 0 :: .sl 2 0 :: .sl 3 0 :: [])], [⟨.row ⟨.word, v1⟩, 0, 1⟩, ⟨.row ⟨.bool, v2⟩, 0, 1⟩, ⟨.row ⟨.span, v3⟩, 0, 1⟩, ⟨.row ⟨.span, v4⟩, 0, 1⟩] => some (⟨⟨v1, v2⟩, v3, v4⟩)
  | _, _ => none
theorem impl_cloneHeap_D_ok {vs : List V} {W : Heap Row} {a : GHeap} (h : impl_cloneHeap_D vs W = some a) : vs = [.a [.sl 0 0, .sl 1 0, .sl 2 0, .sl 3 0]] ∧ W = [⟨.row ⟨.word, (a).mem.words⟩, 0, 1⟩, ⟨.row ⟨.bool, (a).mem.gone⟩, 0, 1⟩, ⟨.row ⟨.span, (a).live⟩, 0, 1⟩, ⟨.row ⟨.span, (a).waits⟩, 0, 1⟩] := by
  unfold impl_cloneHeap_D at h
  split at h
  · simp at h; subst h; exact ⟨rfl, rfl⟩
  · simp at h
def impl_cloneHeap_C : Callee Row := ⟨[(false, 0), (false, 0), (false, 0), (false, 0)], fun _ vs W K => (impl_cloneHeap_D vs W).bind fun a => (impl_cloneHeap a).bind fun r => K (.a [.sl 4 0, .sl 5 0, .sl 6 0, .sl 7 0]) [⟨.row ⟨.word, (a).mem.words⟩, 0, 1⟩, ⟨.row ⟨.bool, (a).mem.gone⟩, 0, 1⟩, ⟨.row ⟨.span, (a).live⟩, 0, 1⟩, ⟨.row ⟨.span, (a).waits⟩, 0, 1⟩, ⟨.row ⟨.word, r.mem.words⟩, 0, 2⟩, ⟨.row ⟨.bool, r.mem.gone⟩, 0, 2⟩, ⟨.row ⟨.span, r.live⟩, 0, 2⟩, ⟨.row ⟨.span, r.waits⟩, 0, 2⟩]⟩
theorem impl_cloneHeap_ok : CalleeOk Try.prog rowU 140 impl_cloneHeap_C := by
  refine calleeP (nl := false) (m0 := 4) (T := [(215, impl_cloneMemory_C), (216, slices_Clone_216_C)]) (H := []) (TabOk.cons impl_cloneMemory_ok (TabOk.cons slices_Clone_216_ok TabOk.nil)) (by kernel_rfl) (by kernel_rfl) (fun p hp => nomatch hp) fun ρ vs W K r h => ?_
  obtain ⟨a, ha, h1⟩ := Option.bind_eq_some_iff.1 h
  clear h
  obtain ⟨rfl, rfl⟩ := impl_cloneHeap_D_ok ha
  obtain ⟨q, hq, h2⟩ := Option.bind_eq_some_iff.1 h1
  exact ⟨_, _, h2, (impl_cloneHeap_nf a _ _).trans ((impl_cloneHeap_bind a _).trans (by rw [hq]; rfl))⟩
/-! loop.example/g00249/impl.Plain -/
def impl_Plain_K (x0 : Int) {ρ : Type} (K : GWord → Option ρ) : Option ρ :=
  K (⟨bits .and .i64 x0 65535, false, (⟨0, 0, 0, 0⟩ : GKey)⟩ : GWord)
def impl_Plain (x0 : Int) : Option (GWord) := impl_Plain_K x0 some
theorem impl_Plain_bind (x0 : Int) {ρ : Type} (K : GWord → Option ρ) : impl_Plain_K x0 K = (impl_Plain x0).bind K := by
  simp only [impl_Plain, impl_Plain_K, Option.bind_assoc, Option.bind_some, Option.bind_none, cond_bind, sumK_bind]
noncomputable def impl_Plain_E : Env Row := envN false 67 0 [] []
theorem impl_Plain_nf (x0 : Int) (ρ : Type) (K : V → Heap Row → Option ρ) : evBody rowU impl_Plain_E (bodyC 67) [.c (.int .i64 x0)] [] K = impl_Plain_K x0 (fun r => K (.a [.int .i64 r.n, .bool r.is, .int .i64 r.key.base, .int .i64 r.key.top, .int .i64 r.key.perms, .int .i64 r.key.seal_]) []) := by kernel_rfl
def impl_Plain_D : List V → Heap Row → Option (Int)
  | [.c (.int .i64 v1)], [] => some (v1)
  | _, _ => none
theorem impl_Plain_D_ok {vs : List V} {W : Heap Row} {a : Int} (h : impl_Plain_D vs W = some a) : vs = [.c (.int .i64 (a))] ∧ W = [] := by
  unfold impl_Plain_D at h
  split at h
  · simp at h; subst h; exact ⟨rfl, rfl⟩
  · simp at h
def impl_Plain_C : Callee Row := ⟨[], fun _ vs W K => (impl_Plain_D vs W).bind fun a => (impl_Plain a).bind fun r => K (.a [.int .i64 r.n, .bool r.is, .int .i64 r.key.base, .int .i64 r.key.top, .int .i64 r.key.perms, .int .i64 r.key.seal_]) []⟩
theorem impl_Plain_ok : CalleeOk Try.prog rowU 67 impl_Plain_C := by
  refine calleeP (nl := false) (m0 := 0) (T := []) (H := []) TabOk.nil (by kernel_rfl) (by kernel_rfl) (fun p hp => nomatch hp) fun ρ vs W K r h => ?_
  obtain ⟨a, ha, h1⟩ := Option.bind_eq_some_iff.1 h
  clear h
  obtain ⟨rfl, rfl⟩ := impl_Plain_D_ok ha
  obtain ⟨q, hq, h2⟩ := Option.bind_eq_some_iff.1 h1
  exact ⟨_, _, h2, (impl_Plain_nf a _ _).trans ((impl_Plain_bind a _).trans (by rw [hq]; rfl))⟩
/-! loop.example/g00249/impl.Bare -/
def impl_Bare_K (x0 : GWord) {ρ : Type} (K : GWord → Option ρ) : Option ρ :=
  Option.bind (impl_Plain x0.n) fun r1 =>
  K r1
def impl_Bare (x0 : GWord) : Option (GWord) := impl_Bare_K x0 some
theorem impl_Bare_bind (x0 : GWord) {ρ : Type} (K : GWord → Option ρ) : impl_Bare_K x0 K = (impl_Bare x0).bind K := by
  simp only [impl_Bare, impl_Bare_K, Option.bind_assoc, Option.bind_some, Option.bind_none, cond_bind, sumK_bind]
noncomputable def impl_Bare_E : Env Row := envN false 158 0 [(67, impl_Plain_C)] []
theorem impl_Bare_nf (x0 : GWord) (ρ : Type) (K : V → Heap Row → Option ρ) : evBody rowU impl_Bare_E (bodyC 158) [.a [.int .i64 x0.n, .bool x0.is, .int .i64 x0.key.base, .int .i64 x0.key.top, .int .i64 x0.key.perms, .int .i64 x0.key.seal_]] [] K = impl_Bare_K x0 (fun r => K (.a [.int .i64 r.n, .bool r.is, .int .i64 r.key.base, .int .i64 r.key.top, .int .i64 r.key.perms, .int .i64 r.key.seal_]) []) := by kernel_rfl
def impl_Bare_D : List V → Heap Row → Option (GWord)
  | [.a (.int .i64 v1 :: .bool v2 :: .int .i64 v3 :: .int .i64 v4 :: .int .i64 v5 :: .int .i64 v6 :: [])], [] => some (⟨v1, v2, ⟨v3, v4, v5, v6⟩⟩)
  | _, _ => none
theorem impl_Bare_D_ok {vs : List V} {W : Heap Row} {a : GWord} (h : impl_Bare_D vs W = some a) : vs = [.a [.int .i64 (a).n, .bool (a).is, .int .i64 (a).key.base, .int .i64 (a).key.top, .int .i64 (a).key.perms, .int .i64 (a).key.seal_]] ∧ W = [] := by
  unfold impl_Bare_D at h
  split at h
  · simp at h; subst h; exact ⟨rfl, rfl⟩
  · simp at h
def impl_Bare_C : Callee Row := ⟨[], fun _ vs W K => (impl_Bare_D vs W).bind fun a => (impl_Bare a).bind fun r => K (.a [.int .i64 r.n, .bool r.is, .int .i64 r.key.base, .int .i64 r.key.top, .int .i64 r.key.perms, .int .i64 r.key.seal_]) []⟩
theorem impl_Bare_ok : CalleeOk Try.prog rowU 158 impl_Bare_C := by
  refine calleeP (nl := false) (m0 := 0) (T := [(67, impl_Plain_C)]) (H := []) (TabOk.cons impl_Plain_ok TabOk.nil) (by kernel_rfl) (by kernel_rfl) (fun p hp => nomatch hp) fun ρ vs W K r h => ?_
  obtain ⟨a, ha, h1⟩ := Option.bind_eq_some_iff.1 h
  clear h
  obtain ⟨rfl, rfl⟩ := impl_Bare_D_ok ha
  obtain ⟨q, hq, h2⟩ := Option.bind_eq_some_iff.1 h1
  exact ⟨_, _, h2, (impl_Bare_nf a _ _).trans ((impl_Bare_bind a _).trans (by rw [hq]; rfl))⟩
/-! loop.example/g00249/impl.Filter -/
def impl_Filter_K (x0 : GMemory) (x1 : GWord) {ρ : Type} (K : GWord → Option ρ) : Option ρ :=
  cond (x1.is == true)
    (Option.bind (impl_in x1.key.base 0 (w64 ((((x0.gone.length : Nat) : Int)) - 1))) fun r1 =>
    cond (r1 == true)
      (cond (decide (0 ≤ x1.key.base)) (cond (decide (x1.key.base < (((x0.gone.length : Nat) : Int)))) (cond (List.getD x0.gone (x1.key.base.toNat) false)
        (Option.bind (impl_Bare x1) fun r2 =>
        K r2)
        (K x1)) none) none)
      (K x1))
    (K x1)
def impl_Filter (x0 : GMemory) (x1 : GWord) : Option (GWord) := impl_Filter_K x0 x1 some
theorem impl_Filter_bind (x0 : GMemory) (x1 : GWord) {ρ : Type} (K : GWord → Option ρ) : impl_Filter_K x0 x1 K = (impl_Filter x0 x1).bind K := by
  simp only [impl_Filter, impl_Filter_K, Option.bind_assoc, Option.bind_some, Option.bind_none, cond_bind, sumK_bind]
noncomputable def impl_Filter_E : Env Row := envN false 60 2 [(125, impl_in_C), (158, impl_Bare_C)] []
theorem impl_Filter_nf (x0 : GMemory) (x1 : GWord) (ρ : Type) (K : V → Heap Row → Option ρ) : evBody rowU impl_Filter_E (bodyC 60) [.a [.sl 0 0, .sl 1 0], .a [.int .i64 x1.n, .bool x1.is, .int .i64 x1.key.base, .int .i64 x1.key.top, .int .i64 x1.key.perms, .int .i64 x1.key.seal_]] [⟨.row ⟨.word, x0.words⟩, 0, 1⟩, ⟨.row ⟨.bool, x0.gone⟩, 0, 1⟩] K = impl_Filter_K x0 x1 (fun r => K (.a [.int .i64 r.n, .bool r.is, .int .i64 r.key.base, .int .i64 r.key.top, .int .i64 r.key.perms, .int .i64 r.key.seal_]) [⟨.row ⟨.word, x0.words⟩, 0, 1⟩, ⟨.row ⟨.bool, x0.gone⟩, 0, 1⟩]) := by kernel_rfl
def impl_Filter_D : List V → Heap Row → Option (GMemory × GWord)
  | [.a (.sl 0 0 :: .sl 1 0 :: []), .a (.int .i64 v1 :: .bool v2 :: .int .i64 v3 :: .int .i64 v4 :: .int .i64 v5 :: .int .i64 v6 :: [])], [⟨.row ⟨.word, v7⟩, 0, 1⟩, ⟨.row ⟨.bool, v8⟩, 0, 1⟩] => some (⟨v7, v8⟩, ⟨v1, v2, ⟨v3, v4, v5, v6⟩⟩)
  | _, _ => none
theorem impl_Filter_D_ok {vs : List V} {W : Heap Row} {a : GMemory × GWord} (h : impl_Filter_D vs W = some a) : vs = [.a [.sl 0 0, .sl 1 0], .a [.int .i64 (a.2).n, .bool (a.2).is, .int .i64 (a.2).key.base, .int .i64 (a.2).key.top, .int .i64 (a.2).key.perms, .int .i64 (a.2).key.seal_]] ∧ W = [⟨.row ⟨.word, (a.1).words⟩, 0, 1⟩, ⟨.row ⟨.bool, (a.1).gone⟩, 0, 1⟩] := by
  unfold impl_Filter_D at h
  split at h
  · simp at h; subst h; exact ⟨rfl, rfl⟩
  · simp at h
def impl_Filter_C : Callee Row := ⟨[(false, 0), (false, 0)], fun _ vs W K => (impl_Filter_D vs W).bind fun a => (impl_Filter a.1 a.2).bind fun r => K (.a [.int .i64 r.n, .bool r.is, .int .i64 r.key.base, .int .i64 r.key.top, .int .i64 r.key.perms, .int .i64 r.key.seal_]) [⟨.row ⟨.word, (a.1).words⟩, 0, 1⟩, ⟨.row ⟨.bool, (a.1).gone⟩, 0, 1⟩]⟩
theorem impl_Filter_ok : CalleeOk Try.prog rowU 60 impl_Filter_C := by
  refine calleeP (nl := false) (m0 := 2) (T := [(125, impl_in_C), (158, impl_Bare_C)]) (H := []) (TabOk.cons impl_in_ok (TabOk.cons impl_Bare_ok TabOk.nil)) (by kernel_rfl) (by kernel_rfl) (fun p hp => nomatch hp) fun ρ vs W K r h => ?_
  obtain ⟨a, ha, h1⟩ := Option.bind_eq_some_iff.1 h
  clear h
  obtain ⟨rfl, rfl⟩ := impl_Filter_D_ok ha
  obtain ⟨q, hq, h2⟩ := Option.bind_eq_some_iff.1 h1
  exact ⟨_, _, h2, (impl_Filter_nf (a.1) (a.2) _ _).trans ((impl_Filter_bind (a.1) (a.2) _).trans (by rw [hq]; rfl))⟩
/-! loop.example/g00249/impl.Clean -/
noncomputable def impl_Clean_L0_K (l0 : List GWord) (l1 : List Bool) (l2 : List GSpan) (l3 : List GSpan) (l4 : List GWord) (l5 : List GWord) (l7 : List Bool) (l8 : List GSpan) (l9 : List GSpan) (n10 : Int) (l6 : List GWord) (n11 : Int) {ρ : Type} (A : List GWord × Int → Option ρ) (X : List GWord → Option ρ) (R : Unit → Option ρ) : Option ρ :=
  cond (decide (n11 < n10))
    (cond (decide (0 ≤ n11)) (cond (decide (n11 < (((l0.length : Nat) : Int)))) (Option.bind (impl_Filter (⟨l0, l1⟩ : GMemory) (List.getD l0 (n11.toNat) (default))) fun r4 =>
    cond (decide (0 ≤ n11)) (cond (decide (n11 < (((l6.length : Nat) : Int)))) (A (List.set l6 (n11.toNat) r4, w64 (n11 + 1))) none) none) none) none)
    (X l6)
noncomputable def impl_Clean_L0_step (l0 : List GWord) (l1 : List Bool) (l2 : List GSpan) (l3 : List GSpan) (l4 : List GWord) (l5 : List GWord) (l7 : List Bool) (l8 : List GSpan) (l9 : List GSpan) (n10 : Int) (s : List GWord × Int) : Option (Rnd (List GWord × Int) (List GWord) (Unit)) := impl_Clean_L0_K l0 l1 l2 l3 l4 l5 l7 l8 l9 n10 (s.1) (s.2) (fun s => some (.again s)) (fun t => some (.exit t)) (fun k => some (.ret k))
theorem impl_Clean_L0_bind (l0 : List GWord) (l1 : List Bool) (l2 : List GSpan) (l3 : List GSpan) (l4 : List GWord) (l5 : List GWord) (l7 : List Bool) (l8 : List GSpan) (l9 : List GSpan) (n10 : Int) (s : List GWord × Int) {ρ : Type} (A : List GWord × Int → Option ρ) (X : List GWord → Option ρ) (R : Unit → Option ρ) : impl_Clean_L0_K l0 l1 l2 l3 l4 l5 l7 l8 l9 n10 (s.1) (s.2) A X R = (impl_Clean_L0_step l0 l1 l2 l3 l4 l5 l7 l8 l9 n10 s).bind (rndE A X R) := by
  simp only [impl_Clean_L0_step, impl_Clean_L0_K, Option.bind_assoc, Option.bind_some, Option.bind_none, cond_bind, sumK_bind, rndE_again, rndE_exit, rndE_ret]
def impl_Clean_L0_st (p : List GWord × List Bool × List GSpan × List GSpan × List GWord × List GWord × List Bool × List GSpan × List GSpan × Int) (s : List GWord × Int) : List V × Heap Row := ([.c (.sl 4 0), .c (.ptr 5 0), .c (.ptr 6 0), .c (.ptr 7 0), .c (.sl 8 0), .c (.sl 0 0), .c (.int .i64 (p.2.2.2.2.2.2.2.2.2)), .c (.int .i64 (s.2))], [⟨.row ⟨.word, p.1⟩, 0, 1⟩, ⟨.row ⟨.bool, p.2.1⟩, 0, 1⟩, ⟨.row ⟨.span, p.2.2.1⟩, 0, 1⟩, ⟨.row ⟨.span, p.2.2.2.1⟩, 0, 1⟩, ⟨.row ⟨.word, p.2.2.2.2.1⟩, 0, 1⟩, ⟨.box [.sl 0 0, .sl 1 0, .sl 2 0, .sl 3 0], 0, 2⟩, ⟨.box [.nils 3, .nils 1, .nils 4, .nils 4], 0, 2⟩, ⟨.box [.sl 9 0, .sl 10 0, .sl 11 0, .sl 12 0], 0, 2⟩, ⟨.row ⟨.word, p.2.2.2.2.2.1⟩, 0, 2⟩, ⟨.row ⟨.word, s.1⟩, 0, 2⟩, ⟨.row ⟨.bool, p.2.2.2.2.2.2.1⟩, 0, 2⟩, ⟨.row ⟨.span, p.2.2.2.2.2.2.2.1⟩, 0, 2⟩, ⟨.row ⟨.span, p.2.2.2.2.2.2.2.2.1⟩, 0, 2⟩])
def impl_Clean_L0_so (p : List GWord × List Bool × List GSpan × List GSpan × List GWord × List GWord × List Bool × List GSpan × List GSpan × Int) (t : List GWord) : List V × Heap Row := ([.c (.sl 4 0), .c (.ptr 5 0), .c (.ptr 6 0), .c (.ptr 7 0), .c (.sl 8 0)], [⟨.row ⟨.word, p.1⟩, 0, 1⟩, ⟨.row ⟨.bool, p.2.1⟩, 0, 1⟩, ⟨.row ⟨.span, p.2.2.1⟩, 0, 1⟩, ⟨.row ⟨.span, p.2.2.2.1⟩, 0, 1⟩, ⟨.row ⟨.word, p.2.2.2.2.1⟩, 0, 1⟩, ⟨.box [.sl 0 0, .sl 1 0, .sl 2 0, .sl 3 0], 0, 2⟩, ⟨.box [.nils 3, .nils 1, .nils 4, .nils 4], 0, 2⟩, ⟨.box [.sl 9 0, .sl 10 0, .sl 11 0, .sl 12 0], 0, 2⟩, ⟨.row ⟨.word, p.2.2.2.2.2.1⟩, 0, 2⟩, ⟨.row ⟨.word, t⟩, 0, 2⟩, ⟨.row ⟨.bool, p.2.2.2.2.2.2.1⟩, 0, 2⟩, ⟨.row ⟨.span, p.2.2.2.2.2.2.2.1⟩, 0, 2⟩, ⟨.row ⟨.span, p.2.2.2.2.2.2.2.2.1⟩, 0, 2⟩])
def impl_Clean_L0_D : List V → Heap Row → Option ((List GWord × List Bool × List GSpan × List GSpan × List GWord × List GWord × List Bool × List GSpan × List GSpan × Int) × (List GWord × Int))
  | [.c (.sl 4 0), .c (.ptr 5 0), .c (.ptr 6 0), .c (.ptr 7 0), .c (.sl 8 0), .c (.sl 0 0), .c (.int .i64 v1), .c (.int .i64 v2)], [⟨.row ⟨.word, v3⟩, 0, 1⟩, ⟨.row ⟨.bool, v4⟩, 0, 1⟩, ⟨.row ⟨.span, v5⟩, 0, 1⟩, ⟨.row ⟨.span, v6⟩, 0, 1⟩, ⟨.row ⟨.word, v7⟩, 0, 1⟩, ⟨.box [.sl 0 0, .sl 1 0, .sl 2 0, .sl 3 0], 0, 2⟩, ⟨.box [.nils 3, .nils 1, .nils 4, .nils 4], 0, 2⟩, ⟨.box [.sl 9 0, .sl 10 0, .sl 11 0, .sl 12 0], 0, 2⟩, ⟨.row ⟨.word, v8⟩, 0, 2⟩, ⟨.row ⟨.word, v9⟩, 0, 2⟩, ⟨.row ⟨.bool, v10⟩, 0, 2⟩, ⟨.row ⟨.span, v11⟩, 0, 2⟩, ⟨.row ⟨.span, v12⟩, 0, 2⟩] => some ((v3, v4, v5, v6, v7, v8, v10, v11, v12, v1), (v9, v2))
  | _, _ => none
theorem impl_Clean_L0_D_ok (vs : List V) (L : Heap Row) (p : List GWord × List Bool × List GSpan × List GSpan × List GWord × List GWord × List Bool × List GSpan × List GSpan × Int) (s : List GWord × Int) (h : impl_Clean_L0_D vs L = some (p, s)) : impl_Clean_L0_st p s = (vs, L) := by
  unfold impl_Clean_L0_D at h
  split at h
  · simp at h; obtain ⟨rfl, rfl⟩ := h; rfl
  · simp at h
noncomputable def impl_Clean_L0_H : LoopH Row := loopX [1, 2, 4, 6, 7, 25, 26, 27] [1, 2, 4, 6, 7] impl_Clean_L0_D (fun p => impl_Clean_L0_step (p.1) (p.2.1) (p.2.2.1) (p.2.2.2.1) (p.2.2.2.2.1) (p.2.2.2.2.2.1) (p.2.2.2.2.2.2.1) (p.2.2.2.2.2.2.2.1) (p.2.2.2.2.2.2.2.2.1) (p.2.2.2.2.2.2.2.2.2)) impl_Clean_L0_so
noncomputable def impl_Clean_L2_K (l0 : List GWord) (l1 : List Bool) (l2 : List GSpan) (l3 : List GSpan) (l4 : List GWord) (l6 : List GWord) (l7 : List Bool) (l8 : List GSpan) (l9 : List GSpan) (n10 : Int) (l5 : List GWord) (n11 : Int) {ρ : Type} (A : List GWord × Int → Option ρ) (X : List GWord → Option ρ) (R : Unit → Option ρ) : Option ρ :=
  cond (decide (n11 < n10))
    (cond (decide (0 ≤ n11)) (cond (decide (n11 < (((l4.length : Nat) : Int)))) (Option.bind (impl_Filter (⟨l0, l1⟩ : GMemory) (List.getD l4 (n11.toNat) (default))) fun r6 =>
    cond (decide (0 ≤ n11)) (cond (decide (n11 < (((l5.length : Nat) : Int)))) (A (List.set l5 (n11.toNat) r6, w64 (n11 + 1))) none) none) none) none)
    (X l5)
noncomputable def impl_Clean_L2_step (l0 : List GWord) (l1 : List Bool) (l2 : List GSpan) (l3 : List GSpan) (l4 : List GWord) (l6 : List GWord) (l7 : List Bool) (l8 : List GSpan) (l9 : List GSpan) (n10 : Int) (s : List GWord × Int) : Option (Rnd (List GWord × Int) (List GWord) (Unit)) := impl_Clean_L2_K l0 l1 l2 l3 l4 l6 l7 l8 l9 n10 (s.1) (s.2) (fun s => some (.again s)) (fun t => some (.exit t)) (fun k => some (.ret k))
theorem impl_Clean_L2_bind (l0 : List GWord) (l1 : List Bool) (l2 : List GSpan) (l3 : List GSpan) (l4 : List GWord) (l6 : List GWord) (l7 : List Bool) (l8 : List GSpan) (l9 : List GSpan) (n10 : Int) (s : List GWord × Int) {ρ : Type} (A : List GWord × Int → Option ρ) (X : List GWord → Option ρ) (R : Unit → Option ρ) : impl_Clean_L2_K l0 l1 l2 l3 l4 l6 l7 l8 l9 n10 (s.1) (s.2) A X R = (impl_Clean_L2_step l0 l1 l2 l3 l4 l6 l7 l8 l9 n10 s).bind (rndE A X R) := by
  simp only [impl_Clean_L2_step, impl_Clean_L2_K, Option.bind_assoc, Option.bind_some, Option.bind_none, cond_bind, sumK_bind, rndE_again, rndE_exit, rndE_ret]
def impl_Clean_L2_st (p : List GWord × List Bool × List GSpan × List GSpan × List GWord × List GWord × List Bool × List GSpan × List GSpan × Int) (s : List GWord × Int) : List V × Heap Row := ([.c (.ptr 5 0), .c (.ptr 6 0), .c (.ptr 7 0), .c (.sl 8 0), .c (.sl 4 0), .c (.int .i64 (p.2.2.2.2.2.2.2.2.2)), .c (.int .i64 (s.2))], [⟨.row ⟨.word, p.1⟩, 0, 1⟩, ⟨.row ⟨.bool, p.2.1⟩, 0, 1⟩, ⟨.row ⟨.span, p.2.2.1⟩, 0, 1⟩, ⟨.row ⟨.span, p.2.2.2.1⟩, 0, 1⟩, ⟨.row ⟨.word, p.2.2.2.2.1⟩, 0, 1⟩, ⟨.box [.sl 0 0, .sl 1 0, .sl 2 0, .sl 3 0], 0, 2⟩, ⟨.box [.nils 3, .nils 1, .nils 4, .nils 4], 0, 2⟩, ⟨.box [.sl 9 0, .sl 10 0, .sl 11 0, .sl 12 0], 0, 2⟩, ⟨.row ⟨.word, s.1⟩, 0, 2⟩, ⟨.row ⟨.word, p.2.2.2.2.2.1⟩, 0, 2⟩, ⟨.row ⟨.bool, p.2.2.2.2.2.2.1⟩, 0, 2⟩, ⟨.row ⟨.span, p.2.2.2.2.2.2.2.1⟩, 0, 2⟩, ⟨.row ⟨.span, p.2.2.2.2.2.2.2.2.1⟩, 0, 2⟩])
def impl_Clean_L2_so (p : List GWord × List Bool × List GSpan × List GSpan × List GWord × List GWord × List Bool × List GSpan × List GSpan × Int) (t : List GWord) : List V × Heap Row := ([.c (.ptr 5 0), .c (.ptr 6 0), .c (.ptr 7 0), .c (.sl 8 0)], [⟨.row ⟨.word, p.1⟩, 0, 1⟩, ⟨.row ⟨.bool, p.2.1⟩, 0, 1⟩, ⟨.row ⟨.span, p.2.2.1⟩, 0, 1⟩, ⟨.row ⟨.span, p.2.2.2.1⟩, 0, 1⟩, ⟨.row ⟨.word, p.2.2.2.2.1⟩, 0, 1⟩, ⟨.box [.sl 0 0, .sl 1 0, .sl 2 0, .sl 3 0], 0, 2⟩, ⟨.box [.nils 3, .nils 1, .nils 4, .nils 4], 0, 2⟩, ⟨.box [.sl 9 0, .sl 10 0, .sl 11 0, .sl 12 0], 0, 2⟩, ⟨.row ⟨.word, t⟩, 0, 2⟩, ⟨.row ⟨.word, p.2.2.2.2.2.1⟩, 0, 2⟩, ⟨.row ⟨.bool, p.2.2.2.2.2.2.1⟩, 0, 2⟩, ⟨.row ⟨.span, p.2.2.2.2.2.2.2.1⟩, 0, 2⟩, ⟨.row ⟨.span, p.2.2.2.2.2.2.2.2.1⟩, 0, 2⟩])
def impl_Clean_L2_D : List V → Heap Row → Option ((List GWord × List Bool × List GSpan × List GSpan × List GWord × List GWord × List Bool × List GSpan × List GSpan × Int) × (List GWord × Int))
  | [.c (.ptr 5 0), .c (.ptr 6 0), .c (.ptr 7 0), .c (.sl 8 0), .c (.sl 4 0), .c (.int .i64 v1), .c (.int .i64 v2)], [⟨.row ⟨.word, v3⟩, 0, 1⟩, ⟨.row ⟨.bool, v4⟩, 0, 1⟩, ⟨.row ⟨.span, v5⟩, 0, 1⟩, ⟨.row ⟨.span, v6⟩, 0, 1⟩, ⟨.row ⟨.word, v7⟩, 0, 1⟩, ⟨.box [.sl 0 0, .sl 1 0, .sl 2 0, .sl 3 0], 0, 2⟩, ⟨.box [.nils 3, .nils 1, .nils 4, .nils 4], 0, 2⟩, ⟨.box [.sl 9 0, .sl 10 0, .sl 11 0, .sl 12 0], 0, 2⟩, ⟨.row ⟨.word, v8⟩, 0, 2⟩, ⟨.row ⟨.word, v9⟩, 0, 2⟩, ⟨.row ⟨.bool, v10⟩, 0, 2⟩, ⟨.row ⟨.span, v11⟩, 0, 2⟩, ⟨.row ⟨.span, v12⟩, 0, 2⟩] => some ((v3, v4, v5, v6, v7, v9, v10, v11, v12, v1), (v8, v2))
  | _, _ => none
theorem impl_Clean_L2_D_ok (vs : List V) (L : Heap Row) (p : List GWord × List Bool × List GSpan × List GSpan × List GWord × List GWord × List Bool × List GSpan × List GSpan × Int) (s : List GWord × Int) (h : impl_Clean_L2_D vs L = some (p, s)) : impl_Clean_L2_st p s = (vs, L) := by
  unfold impl_Clean_L2_D at h
  split at h
  · simp at h; obtain ⟨rfl, rfl⟩ := h; rfl
  · simp at h
noncomputable def impl_Clean_L2_H : LoopH Row := loopX [2, 4, 6, 7, 42, 43, 44] [2, 4, 6, 7] impl_Clean_L2_D (fun p => impl_Clean_L2_step (p.1) (p.2.1) (p.2.2.1) (p.2.2.2.1) (p.2.2.2.2.1) (p.2.2.2.2.2.1) (p.2.2.2.2.2.2.1) (p.2.2.2.2.2.2.2.1) (p.2.2.2.2.2.2.2.2.1) (p.2.2.2.2.2.2.2.2.2)) impl_Clean_L2_so
noncomputable def impl_Clean_L4_K (l0 : List GWord) (l1 : List Bool) (l2 : List GSpan) (l3 : List GSpan) (l4 : List GWord) (l5 : List GWord) (l7 : List Bool) (l8 : List GSpan) (l9 : List GSpan) (n10 : Int) (l6 : List GWord) (n11 : Int) {ρ : Type} (A : List GWord × Int → Option ρ) (X : List GWord → Option ρ) (R : Unit → Option ρ) : Option ρ :=
  cond (decide (n11 < n10))
    (cond (decide (0 ≤ n11)) (cond (decide (n11 < (((l1.length : Nat) : Int)))) (cond (List.getD l1 (n11.toNat) false)
      (cond (decide (0 ≤ n11)) (cond (decide (n11 < (((l6.length : Nat) : Int)))) (A (List.set l6 (n11.toNat) (⟨0, false, (⟨0, 0, 0, 0⟩ : GKey)⟩ : GWord), w64 (n11 + 1))) none) none)
      (A (l6, w64 (n11 + 1)))) none) none)
    (X l6)
noncomputable def impl_Clean_L4_step (l0 : List GWord) (l1 : List Bool) (l2 : List GSpan) (l3 : List GSpan) (l4 : List GWord) (l5 : List GWord) (l7 : List Bool) (l8 : List GSpan) (l9 : List GSpan) (n10 : Int) (s : List GWord × Int) : Option (Rnd (List GWord × Int) (List GWord) (Unit)) := impl_Clean_L4_K l0 l1 l2 l3 l4 l5 l7 l8 l9 n10 (s.1) (s.2) (fun s => some (.again s)) (fun t => some (.exit t)) (fun k => some (.ret k))
theorem impl_Clean_L4_bind (l0 : List GWord) (l1 : List Bool) (l2 : List GSpan) (l3 : List GSpan) (l4 : List GWord) (l5 : List GWord) (l7 : List Bool) (l8 : List GSpan) (l9 : List GSpan) (n10 : Int) (s : List GWord × Int) {ρ : Type} (A : List GWord × Int → Option ρ) (X : List GWord → Option ρ) (R : Unit → Option ρ) : impl_Clean_L4_K l0 l1 l2 l3 l4 l5 l7 l8 l9 n10 (s.1) (s.2) A X R = (impl_Clean_L4_step l0 l1 l2 l3 l4 l5 l7 l8 l9 n10 s).bind (rndE A X R) := by
  simp only [impl_Clean_L4_step, impl_Clean_L4_K, Option.bind_assoc, Option.bind_some, Option.bind_none, cond_bind, sumK_bind, rndE_again, rndE_exit, rndE_ret]
def impl_Clean_L4_st (p : List GWord × List Bool × List GSpan × List GSpan × List GWord × List GWord × List Bool × List GSpan × List GSpan × Int) (s : List GWord × Int) : List V × Heap Row := ([.c (.ptr 5 0), .c (.ptr 6 0), .c (.sl 7 0), .c (.sl 1 0), .c (.int .i64 (p.2.2.2.2.2.2.2.2.2)), .c (.int .i64 (s.2))], [⟨.row ⟨.word, p.1⟩, 0, 1⟩, ⟨.row ⟨.bool, p.2.1⟩, 0, 1⟩, ⟨.row ⟨.span, p.2.2.1⟩, 0, 1⟩, ⟨.row ⟨.span, p.2.2.2.1⟩, 0, 1⟩, ⟨.row ⟨.word, p.2.2.2.2.1⟩, 0, 1⟩, ⟨.box [.nils 3, .nils 1, .nils 4, .nils 4], 0, 2⟩, ⟨.box [.sl 8 0, .sl 9 0, .sl 10 0, .sl 11 0], 0, 2⟩, ⟨.row ⟨.word, p.2.2.2.2.2.1⟩, 0, 2⟩, ⟨.row ⟨.word, s.1⟩, 0, 2⟩, ⟨.row ⟨.bool, p.2.2.2.2.2.2.1⟩, 0, 2⟩, ⟨.row ⟨.span, p.2.2.2.2.2.2.2.1⟩, 0, 2⟩, ⟨.row ⟨.span, p.2.2.2.2.2.2.2.2.1⟩, 0, 2⟩])
def impl_Clean_L4_so (p : List GWord × List Bool × List GSpan × List GSpan × List GWord × List GWord × List Bool × List GSpan × List GSpan × Int) (t : List GWord) : List V × Heap Row := ([.c (.ptr 5 0), .c (.ptr 6 0), .c (.sl 7 0)], [⟨.row ⟨.word, p.1⟩, 0, 1⟩, ⟨.row ⟨.bool, p.2.1⟩, 0, 1⟩, ⟨.row ⟨.span, p.2.2.1⟩, 0, 1⟩, ⟨.row ⟨.span, p.2.2.2.1⟩, 0, 1⟩, ⟨.row ⟨.word, p.2.2.2.2.1⟩, 0, 1⟩, ⟨.box [.nils 3, .nils 1, .nils 4, .nils 4], 0, 2⟩, ⟨.box [.sl 8 0, .sl 9 0, .sl 10 0, .sl 11 0], 0, 2⟩, ⟨.row ⟨.word, p.2.2.2.2.2.1⟩, 0, 2⟩, ⟨.row ⟨.word, t⟩, 0, 2⟩, ⟨.row ⟨.bool, p.2.2.2.2.2.2.1⟩, 0, 2⟩, ⟨.row ⟨.span, p.2.2.2.2.2.2.2.1⟩, 0, 2⟩, ⟨.row ⟨.span, p.2.2.2.2.2.2.2.2.1⟩, 0, 2⟩])
def impl_Clean_L4_D : List V → Heap Row → Option ((List GWord × List Bool × List GSpan × List GSpan × List GWord × List GWord × List Bool × List GSpan × List GSpan × Int) × (List GWord × Int))
  | [.c (.ptr 5 0), .c (.ptr 6 0), .c (.sl 7 0), .c (.sl 1 0), .c (.int .i64 v1), .c (.int .i64 v2)], [⟨.row ⟨.word, v3⟩, 0, 1⟩, ⟨.row ⟨.bool, v4⟩, 0, 1⟩, ⟨.row ⟨.span, v5⟩, 0, 1⟩, ⟨.row ⟨.span, v6⟩, 0, 1⟩, ⟨.row ⟨.word, v7⟩, 0, 1⟩, ⟨.box [.nils 3, .nils 1, .nils 4, .nils 4], 0, 2⟩, ⟨.box [.sl 8 0, .sl 9 0, .sl 10 0, .sl 11 0], 0, 2⟩, ⟨.row ⟨.word, v8⟩, 0, 2⟩, ⟨.row ⟨.word, v9⟩, 0, 2⟩, ⟨.row ⟨.bool, v10⟩, 0, 2⟩, ⟨.row ⟨.span, v11⟩, 0, 2⟩, ⟨.row ⟨.span, v12⟩, 0, 2⟩] => some ((v3, v4, v5, v6, v7, v8, v10, v11, v12, v1), (v9, v2))
  | _, _ => none
theorem impl_Clean_L4_D_ok (vs : List V) (L : Heap Row) (p : List GWord × List Bool × List GSpan × List GSpan × List GWord × List GWord × List Bool × List GSpan × List GSpan × Int) (s : List GWord × Int) (h : impl_Clean_L4_D vs L = some (p, s)) : impl_Clean_L4_st p s = (vs, L) := by
  unfold impl_Clean_L4_D at h
  split at h
  · simp at h; obtain ⟨rfl, rfl⟩ := h; rfl
  · simp at h
noncomputable def impl_Clean_L4_H : LoopH Row := loopX [4, 6, 7, 59, 60, 61] [4, 6, 7] impl_Clean_L4_D (fun p => impl_Clean_L4_step (p.1) (p.2.1) (p.2.2.1) (p.2.2.2.1) (p.2.2.2.2.1) (p.2.2.2.2.2.1) (p.2.2.2.2.2.2.1) (p.2.2.2.2.2.2.2.1) (p.2.2.2.2.2.2.2.2.1) (p.2.2.2.2.2.2.2.2.2)) impl_Clean_L4_so
theorem impl_Clean_L0_nf (p : List GWord × List Bool × List GSpan × List GSpan × List GWord × List GWord × List Bool × List GSpan × List GSpan × Int) (s : List GWord × Int) (ρ : Type) (again Kx Kr : List V → Heap Row → Option ρ) : evRound rowU (envOf 42 5 [(40, impl_HeapOk_C), (141, slices_Clone_C), (140, impl_cloneHeap_C), (60, impl_Filter_C)] [(0, impl_Clean_L0_H), (2, impl_Clean_L2_H), (4, impl_Clean_L4_H)]) 0 impl_Clean_L0_H (loopC 42 0) again (impl_Clean_L0_st p s).1 (impl_Clean_L0_st p s).2 Kx Kr = impl_Clean_L0_K (p.1) (p.2.1) (p.2.2.1) (p.2.2.2.1) (p.2.2.2.2.1) (p.2.2.2.2.2.1) (p.2.2.2.2.2.2.1) (p.2.2.2.2.2.2.2.1) (p.2.2.2.2.2.2.2.2.1) (p.2.2.2.2.2.2.2.2.2) (s.1) (s.2) (fun s => again (impl_Clean_L0_st p s).1 (impl_Clean_L0_st p s).2) (fun t => Kx (impl_Clean_L0_so p t).1 (impl_Clean_L0_so p t).2) (fun _ => none) := by kernel_rfl
theorem impl_Clean_L0_ok (hb : LoopsOk Try.prog rowU (envOf 42 5 [(40, impl_HeapOk_C), (141, slices_Clone_C), (140, impl_cloneHeap_C), (60, impl_Filter_C)] [(0, impl_Clean_L0_H), (2, impl_Clean_L2_H), (4, impl_Clean_L4_H)]) (loopAt (codeP 42) 0)) : LoopOk Try.prog rowU (envOf 42 5 [(40, impl_HeapOk_C), (141, slices_Clone_C), (140, impl_cloneHeap_C), (60, impl_Filter_C)] [(0, impl_Clean_L0_H), (2, impl_Clean_L2_H), (4, impl_Clean_L4_H)]) 0 (loopAt (codeP 42) 0) impl_Clean_L0_H :=
  loopX_ok tagOk mixed envNl (envT (TabOk.cons impl_HeapOk_ok (TabOk.cons slices_Clone_ok (TabOk.cons impl_cloneHeap_ok (TabOk.cons impl_Filter_ok TabOk.nil))))) hb impl_Clean_L0_st impl_Clean_L0_D_ok fun p s ρ A Kx Kr => (impl_Clean_L0_nf p s ρ A Kx Kr).trans (impl_Clean_L0_bind (p.1) (p.2.1) (p.2.2.1) (p.2.2.2.1) (p.2.2.2.2.1) (p.2.2.2.2.2.1) (p.2.2.2.2.2.2.1) (p.2.2.2.2.2.2.2.1) (p.2.2.2.2.2.2.2.2.1) (p.2.2.2.2.2.2.2.2.2) s _ _ _)
theorem impl_Clean_L2_nf (p : List GWord × List Bool × List GSpan × List GSpan × List GWord × List GWord × List Bool × List GSpan × List GSpan × Int) (s : List GWord × Int) (ρ : Type) (again Kx Kr : List V → Heap Row → Option ρ) : evRound rowU (envOf 42 5 [(40, impl_HeapOk_C), (141, slices_Clone_C), (140, impl_cloneHeap_C), (60, impl_Filter_C)] [(0, impl_Clean_L0_H), (2, impl_Clean_L2_H), (4, impl_Clean_L4_H)]) 2 impl_Clean_L2_H (loopC 42 2) again (impl_Clean_L2_st p s).1 (impl_Clean_L2_st p s).2 Kx Kr = impl_Clean_L2_K (p.1) (p.2.1) (p.2.2.1) (p.2.2.2.1) (p.2.2.2.2.1) (p.2.2.2.2.2.1) (p.2.2.2.2.2.2.1) (p.2.2.2.2.2.2.2.1) (p.2.2.2.2.2.2.2.2.1) (p.2.2.2.2.2.2.2.2.2) (s.1) (s.2) (fun s => again (impl_Clean_L2_st p s).1 (impl_Clean_L2_st p s).2) (fun t => Kx (impl_Clean_L2_so p t).1 (impl_Clean_L2_so p t).2) (fun _ => none) := by kernel_rfl
theorem impl_Clean_L2_ok (hb : LoopsOk Try.prog rowU (envOf 42 5 [(40, impl_HeapOk_C), (141, slices_Clone_C), (140, impl_cloneHeap_C), (60, impl_Filter_C)] [(0, impl_Clean_L0_H), (2, impl_Clean_L2_H), (4, impl_Clean_L4_H)]) (loopAt (codeP 42) 2)) : LoopOk Try.prog rowU (envOf 42 5 [(40, impl_HeapOk_C), (141, slices_Clone_C), (140, impl_cloneHeap_C), (60, impl_Filter_C)] [(0, impl_Clean_L0_H), (2, impl_Clean_L2_H), (4, impl_Clean_L4_H)]) 2 (loopAt (codeP 42) 2) impl_Clean_L2_H :=
  loopX_ok tagOk mixed envNl (envT (TabOk.cons impl_HeapOk_ok (TabOk.cons slices_Clone_ok (TabOk.cons impl_cloneHeap_ok (TabOk.cons impl_Filter_ok TabOk.nil))))) hb impl_Clean_L2_st impl_Clean_L2_D_ok fun p s ρ A Kx Kr => (impl_Clean_L2_nf p s ρ A Kx Kr).trans (impl_Clean_L2_bind (p.1) (p.2.1) (p.2.2.1) (p.2.2.2.1) (p.2.2.2.2.1) (p.2.2.2.2.2.1) (p.2.2.2.2.2.2.1) (p.2.2.2.2.2.2.2.1) (p.2.2.2.2.2.2.2.2.1) (p.2.2.2.2.2.2.2.2.2) s _ _ _)
theorem impl_Clean_L4_nf (p : List GWord × List Bool × List GSpan × List GSpan × List GWord × List GWord × List Bool × List GSpan × List GSpan × Int) (s : List GWord × Int) (ρ : Type) (again Kx Kr : List V → Heap Row → Option ρ) : evRound rowU (envOf 42 5 [(40, impl_HeapOk_C), (141, slices_Clone_C), (140, impl_cloneHeap_C), (60, impl_Filter_C)] [(0, impl_Clean_L0_H), (2, impl_Clean_L2_H), (4, impl_Clean_L4_H)]) 4 impl_Clean_L4_H (loopC 42 4) again (impl_Clean_L4_st p s).1 (impl_Clean_L4_st p s).2 Kx Kr = impl_Clean_L4_K (p.1) (p.2.1) (p.2.2.1) (p.2.2.2.1) (p.2.2.2.2.1) (p.2.2.2.2.2.1) (p.2.2.2.2.2.2.1) (p.2.2.2.2.2.2.2.1) (p.2.2.2.2.2.2.2.2.1) (p.2.2.2.2.2.2.2.2.2) (s.1) (s.2) (fun s => again (impl_Clean_L4_st p s).1 (impl_Clean_L4_st p s).2) (fun t => Kx (impl_Clean_L4_so p t).1 (impl_Clean_L4_so p t).2) (fun _ => none) := by kernel_rfl
theorem impl_Clean_L4_ok (hb : LoopsOk Try.prog rowU (envOf 42 5 [(40, impl_HeapOk_C), (141, slices_Clone_C), (140, impl_cloneHeap_C), (60, impl_Filter_C)] [(0, impl_Clean_L0_H), (2, impl_Clean_L2_H), (4, impl_Clean_L4_H)]) (loopAt (codeP 42) 4)) : LoopOk Try.prog rowU (envOf 42 5 [(40, impl_HeapOk_C), (141, slices_Clone_C), (140, impl_cloneHeap_C), (60, impl_Filter_C)] [(0, impl_Clean_L0_H), (2, impl_Clean_L2_H), (4, impl_Clean_L4_H)]) 4 (loopAt (codeP 42) 4) impl_Clean_L4_H :=
  loopX_ok tagOk mixed envNl (envT (TabOk.cons impl_HeapOk_ok (TabOk.cons slices_Clone_ok (TabOk.cons impl_cloneHeap_ok (TabOk.cons impl_Filter_ok TabOk.nil))))) hb impl_Clean_L4_st impl_Clean_L4_D_ok fun p s ρ A Kx Kr => (impl_Clean_L4_nf p s ρ A Kx Kr).trans (impl_Clean_L4_bind (p.1) (p.2.1) (p.2.2.1) (p.2.2.2.1) (p.2.2.2.2.1) (p.2.2.2.2.2.1) (p.2.2.2.2.2.2.1) (p.2.2.2.2.2.2.2.1) (p.2.2.2.2.2.2.2.2.1) (p.2.2.2.2.2.2.2.2.2) s _ _ _)
noncomputable def impl_Clean_K (x0 : GHeap) (x1 : List GWord) {ρ : Type} (K : GHeap × List GWord → Option ρ) : Option ρ :=
  Option.bind (impl_cloneHeap x0) fun r1 =>
  Option.bind (slices_Clone x1) fun r2 =>
  Option.bind (impl_HeapOk x0) fun r3 =>
  cond (!r3)
    (K (r1, r2))
    (Option.bind (runX (impl_Clean_L0_step x0.mem.words x0.mem.gone x0.live x0.waits x1 r2 r1.mem.gone r1.live r1.waits (((x0.mem.words.length : Nat) : Int))) (r1.mem.words, 0)) fun t5 =>
    Option.bind (runX (impl_Clean_L2_step x0.mem.words x0.mem.gone x0.live x0.waits x1 t5 r1.mem.gone r1.live r1.waits (((x1.length : Nat) : Int))) (r2, 0)) fun t7 =>
    Option.bind (runX (impl_Clean_L4_step x0.mem.words x0.mem.gone x0.live x0.waits x1 t7 r1.mem.gone r1.live r1.waits (((x0.mem.gone.length : Nat) : Int))) (t5, 0)) fun t8 =>
    K ((⟨(⟨t8, List.replicate 24 false⟩ : GMemory), r1.live, []⟩ : GHeap), t7))
noncomputable def impl_Clean (x0 : GHeap) (x1 : List GWord) : Option (GHeap × List GWord) := impl_Clean_K x0 x1 some
theorem impl_Clean_bind (x0 : GHeap) (x1 : List GWord) {ρ : Type} (K : GHeap × List GWord → Option ρ) : impl_Clean_K x0 x1 K = (impl_Clean x0 x1).bind K := by
  simp only [impl_Clean, impl_Clean_K, Option.bind_assoc, Option.bind_some, Option.bind_none, cond_bind, sumK_bind]
noncomputable def impl_Clean_E : Env Row := envN false 42 5 [(40, impl_HeapOk_C), (141, slices_Clone_C), (140, impl_cloneHeap_C), (60, impl_Filter_C)] [(0, impl_Clean_L0_H), (2, impl_Clean_L2_H), (4, impl_Clean_L4_H)]
theorem impl_Clean_nf (x0 : GHeap) (x1 : List GWord) (ρ : Type) (K : V → Heap Row → Option ρ) : evBody rowU impl_Clean_E (bodyC 42) [.a [.sl 0 0, .sl 1 0, .sl 2 0, .sl 3 0], .c (.sl 4 0)] [⟨.row ⟨.word, x0.mem.words⟩, 0, 1⟩, ⟨.row ⟨.bool, x0.mem.gone⟩, 0, 1⟩, ⟨.row ⟨.span, x0.live⟩, 0, 1⟩, ⟨.row ⟨.span, x0.waits⟩, 0, 1⟩, ⟨.row ⟨.word, x1⟩, 0, 1⟩] K = impl_Clean_K x0 x1 (fun r => K (.t [(true, [.sl 5 0, .sl 6 0, .sl 7 0, .sl 8 0]), (false, [.sl 9 0])]) [⟨.row ⟨.word, x0.mem.words⟩, 0, 1⟩, ⟨.row ⟨.bool, x0.mem.gone⟩, 0, 1⟩, ⟨.row ⟨.span, x0.live⟩, 0, 1⟩, ⟨.row ⟨.span, x0.waits⟩, 0, 1⟩, ⟨.row ⟨.word, x1⟩, 0, 1⟩, ⟨.row ⟨.word, r.1.mem.words⟩, 0, 2⟩, ⟨.row ⟨.bool, r.1.mem.gone⟩, 0, 2⟩, ⟨.row ⟨.span, r.1.live⟩, 0, 2⟩, ⟨.row ⟨.span, r.1.waits⟩, 0, 2⟩, ⟨.row ⟨.word, r.2⟩, 0, 2⟩]) := by kernel_rfl
def impl_Clean_D : List V → Heap Row → Option (GHeap × List GWord)
  | [.a (.sl 0 0 :: .sl 1 0 :: .sl 2 0 :: .sl 3 0 :: []), .c (.sl 4 0)], [⟨.row ⟨.word, v1⟩, 0, 1⟩, ⟨.row ⟨.bool, v2⟩, 0, 1⟩, ⟨.row ⟨.span, v3⟩, 0, 1⟩, ⟨.row ⟨.span, v4⟩, 0, 1⟩, ⟨.row ⟨.word, v5⟩, 0, 1⟩] => some (⟨⟨v1, v2⟩, v3, v4⟩, v5)
  | _, _ => none
theorem impl_Clean_D_ok {vs : List V} {W : Heap Row} {a : GHeap × List GWord} (h : impl_Clean_D vs W = some a) : vs = [.a [.sl 0 0, .sl 1 0, .sl 2 0, .sl 3 0], .c (.sl 4 0)] ∧ W = [⟨.row ⟨.word, (a.1).mem.words⟩, 0, 1⟩, ⟨.row ⟨.bool, (a.1).mem.gone⟩, 0, 1⟩, ⟨.row ⟨.span, (a.1).live⟩, 0, 1⟩, ⟨.row ⟨.span, (a.1).waits⟩, 0, 1⟩, ⟨.row ⟨.word, a.2⟩, 0, 1⟩] := by
  unfold impl_Clean_D at h
  split at h
  · simp at h; subst h; exact ⟨rfl, rfl⟩
  · simp at h
noncomputable def impl_Clean_C : Callee Row := ⟨[(false, 0), (false, 0), (false, 0), (false, 0), (false, 0)], fun _ vs W K => (impl_Clean_D vs W).bind fun a => (impl_Clean a.1 a.2).bind fun r => K (.t [(true, [.sl 5 0, .sl 6 0, .sl 7 0, .sl 8 0]), (false, [.sl 9 0])]) [⟨.row ⟨.word, (a.1).mem.words⟩, 0, 1⟩, ⟨.row ⟨.bool, (a.1).mem.gone⟩, 0, 1⟩, ⟨.row ⟨.span, (a.1).live⟩, 0, 1⟩, ⟨.row ⟨.span, (a.1).waits⟩, 0, 1⟩, ⟨.row ⟨.word, a.2⟩, 0, 1⟩, ⟨.row ⟨.word, r.1.mem.words⟩, 0, 2⟩, ⟨.row ⟨.bool, r.1.mem.gone⟩, 0, 2⟩, ⟨.row ⟨.span, r.1.live⟩, 0, 2⟩, ⟨.row ⟨.span, r.1.waits⟩, 0, 2⟩, ⟨.row ⟨.word, r.2⟩, 0, 2⟩]⟩
theorem impl_Clean_ok : CalleeOk Try.prog rowU 42 impl_Clean_C := by
  refine calleeP (nl := false) (m0 := 5) (T := [(40, impl_HeapOk_C), (141, slices_Clone_C), (140, impl_cloneHeap_C), (60, impl_Filter_C)]) (H := [(0, impl_Clean_L0_H), (2, impl_Clean_L2_H), (4, impl_Clean_L4_H)]) (TabOk.cons impl_HeapOk_ok (TabOk.cons slices_Clone_ok (TabOk.cons impl_cloneHeap_ok (TabOk.cons impl_Filter_ok TabOk.nil)))) (by kernel_rfl) (by kernel_rfl) (fun p hp hb => by
    simp only [List.mem_cons, List.not_mem_nil, or_false] at hp
    rcases hp with rfl | rfl | rfl
    · exact impl_Clean_L0_ok hb
    · exact impl_Clean_L2_ok hb
    · exact impl_Clean_L4_ok hb) fun ρ vs W K r h => ?_
  obtain ⟨a, ha, h1⟩ := Option.bind_eq_some_iff.1 h
  clear h
  obtain ⟨rfl, rfl⟩ := impl_Clean_D_ok ha
  obtain ⟨q, hq, h2⟩ := Option.bind_eq_some_iff.1 h1
  exact ⟨_, _, h2, (impl_Clean_nf (a.1) (a.2) _ _).trans ((impl_Clean_bind (a.1) (a.2) _).trans (by rw [hq]; rfl))⟩
end Go.Eng
