/- An evaluator of the loaded program over an abstract heap, proved right: part 7. -/
import Derived.Test.YtkgeojjgcffebaaEng6
import Derived.Test.YtkgeojjgcffebaaProg
import Derived.KernelRfl
import Derived.Test.YtkgeojjgcffebaaEng5
set_option linter.unusedVariables false
set_option linter.unusedSimpArgs false
set_option linter.unusedSectionVars false
/- The program of this seat: its kinds of rows. -/
namespace Go.Eng
open Go.Proofs
def tagP : TypeId → Option Nat
  | 3 => some 0 | 4 => some 1 | 5 => some 2 | 41 => some 3 | 244 => some 3 | 151 => some 4 | 211 => some 4 | 155 => some 5 | 157 => some 5 | 164 => some 6 | 173 => some 6
  | _ => none
def tagChk (P : Program) (t g : Nat) : Bool := match P.info? t with
  | some i => i.size == eszN g && decide (0 < i.size) && decide (0 < i.bytes) && (match i.zero with | some z => z.cells.size == i.size | none => false)
  | none => false
theorem tagChk_ok {P : Program} {t g : Nat} (h : tagChk P t g = true) : ∃ i z, P.info? t = some i ∧ i.size = eszN g ∧ 0 < i.size ∧ 0 < i.bytes ∧ i.zero = some z ∧ z.cells.size = i.size := by
  unfold tagChk at h
  split at h
  · rename_i i hi
    simp only [Bool.and_eq_true, decide_eq_true_eq, beq_iff_eq] at h
    obtain ⟨⟨⟨h1, h2⟩, h3⟩, h4⟩ := h
    split at h4
    · rename_i z hz
      exact ⟨i, z, hi, h1, h2, h3, hz, by simpa using h4⟩
    · simp at h4
  · simp at h
theorem tagOk : TagOk Try.prog rowU tagP := by
  refine ⟨fun t g h => ?_⟩
  unfold tagP at h
  have key : ∀ t g, tagChk Try.prog t g = true → ∃ i z, Try.prog.info? t = some i ∧ i.size = rowU.esz g ∧ 0 < i.size ∧ 0 < i.bytes ∧ i.zero = some z ∧ z.cells.size = i.size := fun t g h => tagChk_ok (P := Try.prog) h
  split at h <;> simp at h <;> subst h <;> refine key _ _ ?_ <;> kernel_rfl
noncomputable def bodyC (i : Nat) : SC := match Try.prog.funcs[i]? with
  | some f => match f.body with
    | some c => compC Try.prog tagP c
    | none => .stuck
  | none => .stuck
def resT : ResultVar → Nat
  | .tmp t => t
  | .cell a _ => a
noncomputable def resK : ResultVar → Option (Bool × Nat)
  | .tmp _ => none
  | .cell _ t => match agT Try.prog t, szT Try.prog t with
    | some ag, some n => some (ag, n)
    | _, _ => some (true, 0)
noncomputable def envN (nl : Bool) (i m0 : Nat) (T : List (Nat × Callee Row)) (H : List (Nat × LoopH Row)) : Env Row := match Try.prog.funcs[i]? with
  | some f => ⟨T, H, f.ntmps, m0, f.results.toList.map resT, f.results.toList.map resK, nl⟩
  | none => ⟨T, H, 0, m0, [], [], nl⟩
noncomputable abbrev envOf (i m0 : Nat) (T : List (Nat × Callee Row)) (H : List (Nat × LoopH Row)) : Env Row := envN false i m0 T H
theorem mixed : Try.prog.follows .mixedOrders = true := by kernel_rfl
theorem envT {nl : Bool} {i m0 : Nat} {T : List (Nat × Callee Row)} {H : List (Nat × LoopH Row)} (h : TabOk Try.prog rowU T) : TabOk Try.prog rowU (envN nl i m0 T H).T := by
  unfold envN; split <;> exact h
theorem envNl {nl : Bool} {i m0 : Nat} {T : List (Nat × Callee Row)} {H : List (Nat × LoopH Row)} : (envN nl i m0 T H).nl = nl := by
  unfold envN; split <;> rfl
end Go.Eng
/- The program of this seat: callees from equations. -/
namespace Go.Eng
open Go.Proofs
/-- The body of a function. -/
noncomputable def codeP (i : Nat) : Code := match Try.prog.funcs[i]? with
  | some f => f.body.getD .skip
  | none => .skip
noncomputable def okF (i : Nat) : Bool := match Try.prog.funcs[i]? with
  | some f => f.body.isSome && !(f.name == "runtime.NumGoroutine") && resOk Try.prog f.results.toList (f.results.toList.map resT) (f.results.toList.map resK)
  | none => false
theorem calleeP {nl : Bool} {i m0 : Nat} {T : List (Nat × Callee Row)} {H : List (Nat × LoopH Row)} {ce : Callee Row} (hTab : TabOk Try.prog rowU T) (hok : okF i = true) (hnd : nodupN ((loopsDeep (codeP i)).map (·.1)) = true)
    (hL : ∀ p ∈ H, LoopsOk Try.prog rowU (envN nl i m0 T H) (loopAt (codeP i) p.1) → LoopOk Try.prog rowU (envN nl i m0 T H) p.1 (loopAt (codeP i) p.1) p.2)
    (h : ∀ (ρ : Type) (vs : List V) (W : Heap Row) (K : V → Heap Row → Option ρ) (r : ρ), ce.t ρ vs W K = some r → ∃ v H', K v H' = some r ∧ evBody rowU (envN nl i m0 T H) (bodyC i) vs W (fun v H => some (v, H)) = some (v, H')) : CalleeOk Try.prog rowU i ce := by
  unfold okF at hok
  split at hok
  · rename_i fn hf
    simp only [Bool.and_eq_true, Bool.not_eq_true'] at hok
    obtain ⟨⟨h1, h2⟩, h3⟩ := hok
    obtain ⟨c, hc⟩ := Option.isSome_iff_exists.1 h1
    have hcode : codeP i = c := by unfold codeP; rw [hf]; simp [hc]
    have hbody : bodyC i = compC Try.prog tagP c := by unfold bodyC; rw [hf]; simp [hc]
    have henv : envN nl i m0 T H = ⟨T, H, fn.ntmps, m0, fn.results.toList.map resT, fn.results.toList.map resK, nl⟩ := by unfold envN; rw [hf]
    have hLs : LoopsOk Try.prog rowU (envN nl i m0 T H) c := by
      refine loopsOk_deep c fun k b hk j hh hfd hb => ?_
      rw [hcode] at hnd hL
      have hb' := loopAt_of hnd hk
      subst hb'
      rw [henv] at hfd
      have hj : j = k := by have := List.find?_some hfd; simpa using this
      subst hj
      exact hL (j, hh) (List.mem_of_find?_eq_some hfd) hb
    rw [hbody] at h
    refine callee_of tagOk mixed (E := envN nl i m0 T H) (by rw [henv]; exact hTab) hf h2 hc (by rw [henv]) ?_ hLs h
    rw [henv]
    exact h3
  · simp at hok
theorem envSame {nl nl' : Bool} {i m0 : Nat} {T : List (Nat × Callee Row)} {H H' : List (Nat × LoopH Row)} : (envN nl i m0 T H).n = (envN nl' i m0 T H').n ∧ (envN nl i m0 T H).m0 = (envN nl' i m0 T H').m0 ∧ (envN nl i m0 T H).rs = (envN nl' i m0 T H').rs := by
  unfold envN; split <;> exact ⟨rfl, rfl, rfl⟩
theorem loopsOk_none {E : Env Row} {c : Code} (h : (loopsDeep c).length = 0) : LoopsOk Try.prog rowU E c :=
  loopsOk_deep c fun i b hm => by rw [List.eq_nil_of_length_eq_zero h] at hm; simp at hm
/-- The compiled body of a loop. -/
noncomputable def loopC (i k : Nat) : SC := compC Try.prog tagP (loopAt (codeP i) k)
end Go.Eng
