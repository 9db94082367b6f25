/- FnOnlyLive returns true for all bytes that come in, and they read afterwards as they read before. Conditions: none. -/
import Derived.Test.YtkgeojjgcffebaaOnlyLivePlain
import Derived.Test.YtkgeojjgcffebaaRows
set_option maxRecDepth 20000
namespace Go.Eng
open Go.Proofs
theorem laws_FnOnlyLive_calls : CallsOk Try.prog 5 laws_FnOnlyLive_C := by
  refine callsP (nl := false) (m0 := 1) (T := [(16, laws_big_C), (39, spec_DrawHeld2_C), (40, impl_HeapOk_C), (41, laws_inOne_C), (42, impl_Clean_C)]) (H := [(2, laws_FnOnlyLive_L2_H), (0, laws_FnOnlyLive_L0_H)]) (TabOk.cons laws_big_ok (TabOk.cons spec_DrawHeld2_ok (TabOk.cons impl_HeapOk_ok (TabOk.cons laws_inOne_ok (TabOk.cons impl_Clean_ok TabOk.nil))))) (by kernel_rfl) (by kernel_rfl) (fun p hp hb => by
    simp only [List.mem_cons, List.not_mem_nil, or_false] at hp
    rcases hp with rfl | rfl
    · exact laws_FnOnlyLive_L2_ok hb
    · exact laws_FnOnlyLive_L0_ok hb) fun ρ vs W K r h => ?_
  obtain ⟨a, ha, h1⟩ := Option.bind_eq_some_iff.1 h
  clear h
  obtain ⟨rfl, rfl⟩ := laws_FnOnlyLive_D_ok ha
  obtain ⟨q, hq, h2⟩ := Option.bind_eq_some_iff.1 h1
  exact ⟨_, _, h2, (laws_FnOnlyLive_nf a _ _).trans ((laws_FnOnlyLive_bind a _).trans (by rw [hq]; rfl))⟩
end Go.Eng
namespace Go.Proofs.Ytkgeojjgcffebaa.fnOnlyLive
open Go.ChangeShapes Go.WideShapes Go.ChangeAt Go.RowKit Go.Eng Go.Proofs
theorem own : ownKnob Try.prog.godebug = none := by kernel_rfl
theorem laidOut : laidOutB Try.prog = true := by kernel_rfl
set_option maxRecDepth 100000 in
/-- What the call answers, whatever comes in. -/
theorem walk {H : Type} {enc : TypeId × Value → H} {W : World} {base : Nat} {v0 : Value} {d0 : DataW H} {p0 : List MemPlace} {f0 : Nat} (g0 : Value.okWide Try.prog W .any base 22 v0) (h0 : DataW.trod enc Try.prog W 0 (fun _ => true) true f0 22 v0.cells.toList = some (d0, p0)) (z0 : ∀ m ∈ d0.weights Try.prog 22, m ≤ reachBytes) :
    Calls Try.prog 5 #[v0] W fun e W' => e = .returned (.bool true) ∧ Below W.heap.size W W' := by
  obtain ⟨A0, len0, cap0, rfl⟩ := okWide_slice Try.underlying22 g0
  have l0 := trod_leaves (tagT := tagP) 8 (ls := [.row 2 (psOf .byte)]) (by kernel_rfl) h0 z0
  obtain ⟨c0_0, t0_0, e0_0, q0_0, l0_0⟩ := l0.inv_cons
  obtain rfl : c0_0 = .slice A0 len0 cap0 := by simp [Value.cells] at e0_0; exact e0_0.1.symm
  obtain ⟨r0, a0, s0, b0, w0⟩ := row_in .byte (by decide) (by decide) q0_0
  have sim := sim_ro (w := W) (l := [(⟨.byte, r0⟩, a0)]) (by
    intro x hx; simp only [List.mem_cons, List.not_mem_nil, or_false] at hx; rcases hx with rfl
    · exact ⟨_, s0⟩)
  refine (laws_FnOnlyLive_calls [.c (.sl 0 0)] (roW [(⟨.byte, r0⟩, a0)]) (.c (.bool true), roW [(⟨.byte, r0⟩, a0)]) ?_ _ W _ sim ?_).mono fun e W' ⟨v', he, hl⟩ => ?_
  · simp only [laws_FnOnlyLive_C]
    rw [show laws_FnOnlyLive_D [.c (.sl 0 0)] (roW [(⟨.byte, r0⟩, a0)]) = some r0 from rfl, Option.bind_some]
    try dsimp only
    rw [laws_FnOnlyLive_true r0 b0]; rfl
  · exact (All2.nil).cons (relv_ro (k := 0) rfl s0)
  · refine ⟨?_, below_of roW_ro hl⟩
    obtain ⟨φ', Wc, hv, _⟩ := hl
    rw [he]; exact congrArg _ hv
set_option maxRecDepth 100000 in
theorem lifted (os : Os) (started : os.Started) (H : Type) (enc : TypeId × Value → H) :
    ReturnsInHanded {} Try.checked os 5 .any (Rows.fnOnlyLiveSpec.pre6 enc Try.prog Try.f5 Rows.fnOnlyLiveRow.domain false) (Rows.fnOnlyLiveSpec.post enc Try.prog Try.f5 false true false false) := by
  refine returnsInHanded_of_change_sized (C := Try.checked) own started (by kernel_rfl) Try.func5
    (ChangeSpec.witness6 (enc := enc) (C := Try.checked) false ⟨#[], #[.slice none 0 0], []⟩ 8 (by kernel_rfl) (by kernel_rfl) (by kernel_rfl) (by kernel_rfl)) ?_
  intro W base args ds gs before hval0 hW hcnd hsz0 _
  have hsz : (DataW.weightsEach Try.prog (Try.f5.params.toList ++ Rows.fnOnlyLiveSpec.plain.varTypes Try.prog) (ds ++ gs)).all (· ≤ reachBytes) = true := hsz0
  have hval : ∀ (j : Nat) t v, Try.f5.params[j]? = some t → args[j]? = some v → Value.okWide Try.prog W .any base t v := hval0
  have hW' := hW
  obtain ⟨p, q, hA0, hV, rfl, hfz, hnd⟩ := hW
  have hA : DataW.TrodAll enc Try.prog W 0 (fun _ => true) true Try.f5.params.toList args.toList ds p := hA0
  rw [Try.params5] at hA hval hsz
  obtain ⟨v0, vs0, d0, ds0, p0, q0, hargs, rfl, rfl, h0, r0⟩ := trodAll_cons hA
  obtain ⟨rfl, rfl, rfl⟩ := trodAll_nil r0
  obtain rfl : args = #[v0] := by cases args; simp_all
  obtain ⟨rfl, rfl⟩ := trodVars_none hV
  have k0 := h0
  have lt0 : ∀ x ∈ p0, x.block < W.heap.size := by obtain ⟨m, hm⟩ := k0; exact DataW.trod_lt m _ _ _ hm
  obtain ⟨f0, hf0⟩ := h0
  have z0 : ∀ m ∈ d0.weights Try.prog 22, m ≤ reachBytes := fun m hm => of_decide_eq_true (List.all_eq_true.1 hsz m (DataW.weights_mem_each (j := 0) (t := 22) (d := d0) rfl rfl m hm))
  clear hA0 hval0 hsz0 hsz
  refine (walk (hval 0 22 v0 rfl rfl) hf0 z0).mono fun e W' ⟨he, bel⟩ => ?_
  subst he
  exact ⟨_, rfl, _, _, _, [], _, [], hW', trodAll_mk1 (shut_bool Try.underlying4 _), (trodAll_cons_mk (Below.trod laidOut (by kernel_rfl) (of_decide_eq_true (by kernel_rfl)) k0 bel lt0) trodAll_mk0), rfl, bel.frame _, fun h => by cases h⟩
theorem band {a b : Bool} (h : a = true) (h' : b = true) : (a && b) = true := by subst h h'; rfl
theorem inPlace_ : Try.prog.inPlace 5 = [] := by kernel_rfl
theorem unfollowed_ : Try.prog.unfollowed 5 = true := by kernel_rfl
theorem recurses_ : Try.prog.recurses 5 = true := by kernel_rfl
theorem named_ : Try.prog.varsNamed 5 = [] := by kernel_rfl
set_option maxHeartbeats 40000000 in
theorem closed : joinedFacts Try.prog 5 Try.f5 Rows.fnOnlyLiveSpec Rows.fnOnlyLiveRow = true := by
  unfold joinedFacts
  rw [inPlace_, unfollowed_, recurses_, named_]
  repeat' (with_reducible refine band ?_ ?_)
  all_goals (as_aux_lemma => kernel_rfl)
theorem holds : Rows.FnOnlyLiveSaid :=
  OpenClaim.holds_of_wide 5 Try.f5 rfl rfl rfl rfl rfl rfl rfl ⟨rfl, rfl, rfl, rfl, rfl⟩ rfl rfl rfl rfl rfl (by kernel_rfl) Try.func5 closed
    (of_decide_eq_true (by kernel_rfl)) (by unfold Func.isWrapper; first | (rw [if_pos (by decide +kernel)]; kernel_rfl) | (rw [if_neg (by decide +kernel)]; exact ⟨rfl, rfl⟩))
    (fun os started H enc _ => lifted os started H enc)
end Go.Proofs.Ytkgeojjgcffebaa.fnOnlyLive
namespace Go.Proofs.Ytkgeojjgcffebaa
theorem fnOnlyLive_holds : Rows.FnOnlyLiveSaid := fnOnlyLive.holds
end Go.Proofs.Ytkgeojjgcffebaa
