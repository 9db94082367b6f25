/- FnExactNextPlaces returns true for every code and every place that come in, and the code reads afterwards as it read before. Conditions: none. -/
import Derived.Test.YtkgeojjgcffebaaExactNextPlacesPlain
import Derived.Test.YtkgeojjgcffebaaRows
set_option maxRecDepth 20000
namespace Go.Eng
open Go.Proofs
theorem laws_FnExactNextPlaces_calls : CallsOk Try.prog 9 laws_FnExactNextPlaces_C := by
  refine callsP (nl := false) (m0 := 1) (T := [(68, laws_szInsS_C), (70, laws_toInsS_C), (69, spec_NextPlaces_C), (71, impl_NextPlaces_C), (47, laws_eqIntS_C), (72, laws_eqInsS_C), (73, laws_markInsS_C), (50, laws_markIntS_C), (51, laws_heldIntS_C)]) (H := []) (TabOk.cons laws_szInsS_ok (TabOk.cons laws_toInsS_ok (TabOk.cons spec_NextPlaces_ok (TabOk.cons impl_NextPlaces_ok (TabOk.cons laws_eqIntS_ok (TabOk.cons laws_eqInsS_ok (TabOk.cons laws_markInsS_ok (TabOk.cons laws_markIntS_ok (TabOk.cons laws_heldIntS_ok TabOk.nil))))))))) (by kernel_rfl) (by kernel_rfl) (fun p hp => nomatch hp) fun ρ vs W K r h => ?_
  obtain ⟨a, ha, h1⟩ := Option.bind_eq_some_iff.1 h
  clear h
  obtain ⟨rfl, rfl⟩ := laws_FnExactNextPlaces_D_ok ha
  obtain ⟨q, hq, h2⟩ := Option.bind_eq_some_iff.1 h1
  exact ⟨_, _, h2, (laws_FnExactNextPlaces_nf (a.1) (a.2) _ _).trans ((laws_FnExactNextPlaces_bind (a.1) (a.2) _).trans (by rw [hq]; rfl))⟩
end Go.Eng
namespace Go.Proofs.Ytkgeojjgcffebaa.fnExactNextPlaces
open Go.ChangeShapes Go.WideShapes Go.ChangeAt Go.RowKit Go.Eng Go.Proofs
theorem own : ownKnob Try.prog.godebug = none := by kernel_rfl
theorem laidOut : laidOutB Try.prog = true := by kernel_rfl
set_option maxRecDepth 100000 in
/-- What the call answers, whatever comes in. -/
theorem walk {H : Type} {enc : TypeId × Value → H} {W : World} {base : Nat} {v0 v1 : Value} {d0 : DataW H} {p0 : List MemPlace} {f0 : Nat} (g0 : Value.okWide Try.prog W .any base 89 v0) (h0 : DataW.trod enc Try.prog W 0 (fun _ => true) true f0 89 v0.cells.toList = some (d0, p0)) (z0 : ∀ m ∈ d0.weights Try.prog 89, m ≤ reachBytes) {d1 : DataW H} {p1 : List MemPlace} {f1 : Nat} (g1 : Value.okWide Try.prog W .any base 3 v1) (h1 : DataW.trod enc Try.prog W 0 (fun _ => true) true f1 3 v1.cells.toList = some (d1, p1)) (z1 : ∀ m ∈ d1.weights Try.prog 3, m ≤ reachBytes) :
    Calls Try.prog 9 #[v0, v1] W fun e W' => e = .returned (.bool true) ∧ Below W.heap.size W W' := by
  obtain ⟨A0, len0, cap0, rfl⟩ := okWide_slice Try.underlying89 g0
  have l0 := trod_leaves (tagT := tagP) 8 (ls := [.row 6 (psOf .ins)]) (by kernel_rfl) h0 z0
  obtain ⟨c0_0, t0_0, e0_0, q0_0, l0_0⟩ := l0.inv_cons
  obtain rfl : c0_0 = .slice A0 len0 cap0 := by simp [Value.cells] at e0_0; exact e0_0.1.symm
  obtain ⟨r0, a0, s0, b0, w0⟩ := row_in .ins (by decide) (by decide) q0_0
  obtain ⟨n0, rfl⟩ := okWide_int Try.underlying3 g1
  have l1 := trod_leaves (tagT := tagP) 8 (ls := [.p (.int .i64)]) (by kernel_rfl) h1 z1
  obtain ⟨c1_0, t1_0, e1_0, q1_0, l1_0⟩ := l1.inv_cons
  obtain rfl : c1_0 = .int .i64 n0 := by simp [Value.cells] at e1_0; exact e1_0.1.symm
  have m0 : (Lit.int .i64 n0).wf = true := by obtain ⟨n, h, hw⟩ := q1_0; simp at h; subst h; exact hw
  have sim := sim_ro (w := W) (l := [(⟨.ins, r0⟩, a0)]) (by
    intro x hx; simp only [List.mem_cons, List.not_mem_nil, or_false] at hx; rcases hx with rfl
    · exact ⟨_, s0⟩)
  refine (laws_FnExactNextPlaces_calls [.c (.sl 0 0), .c (.int .i64 n0)] (roW [(⟨.ins, r0⟩, a0)]) (.c (.bool true), roW [(⟨.ins, r0⟩, a0)]) ?_ _ W _ sim ?_).mono fun e W' ⟨v', he, hl⟩ => ?_
  · simp only [laws_FnExactNextPlaces_C]
    rw [show laws_FnExactNextPlaces_D [.c (.sl 0 0), .c (.int .i64 n0)] (roW [(⟨.ins, r0⟩, a0)]) = some (r0, n0) from rfl, Option.bind_some]
    try dsimp only
    rw [laws_FnExactNextPlaces_true r0 n0 b0]; rfl
  · exact ((All2.nil).cons relv_int).cons (relv_ro (k := 0) rfl s0)
  · refine ⟨?_, below_of roW_ro hl⟩
    obtain ⟨φ', Wc, hv, _⟩ := hl
    rw [he]; exact congrArg _ hv
set_option maxRecDepth 100000 in
theorem lifted (os : Os) (started : os.Started) (H : Type) (enc : TypeId × Value → H) :
    ReturnsInHanded {} Try.checked os 9 .any (Rows.fnExactNextPlacesSpec.pre6 enc Try.prog Try.f9 Rows.fnExactNextPlacesRow.domain false) (Rows.fnExactNextPlacesSpec.post enc Try.prog Try.f9 false true false false) := by
  refine returnsInHanded_of_change_sized (C := Try.checked) own started (by kernel_rfl) Try.func9
    (ChangeSpec.witness6 (enc := enc) (C := Try.checked) false ⟨#[], #[.slice none 0 0, .int .i64 0], []⟩ 8 (by kernel_rfl) (by kernel_rfl) (by kernel_rfl) (by kernel_rfl)) ?_
  intro W base args ds gs before hval0 hW hcnd hsz0 _
  have hsz : (DataW.weightsEach Try.prog (Try.f9.params.toList ++ Rows.fnExactNextPlacesSpec.plain.varTypes Try.prog) (ds ++ gs)).all (· ≤ reachBytes) = true := hsz0
  have hval : ∀ (j : Nat) t v, Try.f9.params[j]? = some t → args[j]? = some v → Value.okWide Try.prog W .any base t v := hval0
  have hW' := hW
  obtain ⟨p, q, hA0, hV, rfl, hfz, hnd⟩ := hW
  have hA : DataW.TrodAll enc Try.prog W 0 (fun _ => true) true Try.f9.params.toList args.toList ds p := hA0
  rw [Try.params9] at hA hval hsz
  obtain ⟨v0, vs0, d0, ds0, p0, q0, hargs, rfl, rfl, h0, r0⟩ := trodAll_cons hA
  obtain ⟨v1, vs1, d1, ds1, p1, q1, rfl, rfl, rfl, h1, r1⟩ := trodAll_cons r0
  obtain ⟨rfl, rfl, rfl⟩ := trodAll_nil r1
  obtain rfl : args = #[v0, v1] := by cases args; simp_all
  obtain ⟨rfl, rfl⟩ := trodVars_none hV
  have k0 := h0
  have lt0 : ∀ x ∈ p0, x.block < W.heap.size := by obtain ⟨m, hm⟩ := k0; exact DataW.trod_lt m _ _ _ hm
  obtain ⟨f0, hf0⟩ := h0
  have z0 : ∀ m ∈ d0.weights Try.prog 89, m ≤ reachBytes := fun m hm => of_decide_eq_true (List.all_eq_true.1 hsz m (DataW.weights_mem_each (j := 0) (t := 89) (d := d0) rfl rfl m hm))
  have k1 := h1
  have lt1 : ∀ x ∈ p1, x.block < W.heap.size := by obtain ⟨m, hm⟩ := k1; exact DataW.trod_lt m _ _ _ hm
  obtain ⟨f1, hf1⟩ := h1
  have z1 : ∀ m ∈ d1.weights Try.prog 3, m ≤ reachBytes := fun m hm => of_decide_eq_true (List.all_eq_true.1 hsz m (DataW.weights_mem_each (j := 1) (t := 3) (d := d1) rfl rfl m hm))
  clear hA0 hval0 hsz0 hsz
  refine (walk (hval 0 89 v0 rfl rfl) hf0 z0 (hval 1 3 v1 rfl rfl) hf1 z1).mono fun e W' ⟨he, bel⟩ => ?_
  subst he
  exact ⟨_, rfl, _, _, _, [], _, [], hW', trodAll_mk1 (shut_bool Try.underlying4 _), (trodAll_cons_mk (Below.trod laidOut (by kernel_rfl) (of_decide_eq_true (by kernel_rfl)) k0 bel lt0) (trodAll_cons_mk (Below.trod laidOut (by kernel_rfl) (of_decide_eq_true (by kernel_rfl)) k1 bel lt1) trodAll_mk0)), rfl, bel.frame _, fun h => by cases h⟩
theorem band {a b : Bool} (h : a = true) (h' : b = true) : (a && b) = true := by subst h h'; rfl
theorem inPlace_ : Try.prog.inPlace 9 = [] := by kernel_rfl
theorem unfollowed_ : Try.prog.unfollowed 9 = true := by kernel_rfl
theorem recurses_ : Try.prog.recurses 9 = true := by kernel_rfl
theorem named_ : Try.prog.varsNamed 9 = [] := by kernel_rfl
set_option maxHeartbeats 40000000 in
theorem closed : joinedFacts Try.prog 9 Try.f9 Rows.fnExactNextPlacesSpec Rows.fnExactNextPlacesRow = true := by
  unfold joinedFacts
  rw [inPlace_, unfollowed_, recurses_, named_]
  repeat' (with_reducible refine band ?_ ?_)
  all_goals (as_aux_lemma => kernel_rfl)
theorem holds : Rows.FnExactNextPlacesSaid :=
  OpenClaim.holds_of_wide 9 Try.f9 rfl rfl rfl rfl rfl rfl rfl ⟨rfl, rfl, rfl, rfl, rfl⟩ rfl rfl rfl rfl rfl (by kernel_rfl) Try.func9 closed
    (of_decide_eq_true (by kernel_rfl)) (by unfold Func.isWrapper; first | (rw [if_pos (by decide +kernel)]; kernel_rfl) | (rw [if_neg (by decide +kernel)]; exact ⟨rfl, rfl⟩))
    (fun os started H enc _ => lifted os started H enc)
end Go.Proofs.Ytkgeojjgcffebaa.fnExactNextPlaces
namespace Go.Proofs.Ytkgeojjgcffebaa
theorem fnExactNextPlaces_holds : Rows.FnExactNextPlacesSaid := fnExactNextPlaces.holds
end Go.Proofs.Ytkgeojjgcffebaa
