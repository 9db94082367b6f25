/- An evaluator of the loaded program over an abstract heap, proved right: part 3. -/
import Derived.Test.YtkgeojjgcffebaaEng2
set_option linter.unusedVariables false
set_option linter.unusedSimpArgs false
set_option linter.unusedSectionVars false
/- The engine, part 18: arguments, told in the callee's words. -/
namespace Go.Eng
section
variable {R : Type} {U : RowU R} {L : Heap R} {win : List (Bool × Nat)}
variable {φ : Phi} {h : Hp R} {w : World}

theorem winM_or (io : Bool) : winM io = 1 ∨ winM io = 2 := by cases io <;> simp [winM]
theorem winM_two {io : Bool} (h : winM io = 2) : io = true := by cases io <;> simp_all [winM]

theorem flat_plain {r : R} {i : Nat} {c : C} (hc : (flat U (.row r))[i]? = some c) : C.plain c = true := by
  obtain ⟨x, hx, hcx⟩ := List.mem_flatten.1 (List.mem_of_getElem? hc)
  exact U.plain r x hx c hcx

/-- A row, seen from elsewhere. -/
theorem blk_row {φ' : Phi} {h' : Hp R} {b k g g' m m' : Nat} {r : R} (hs : Sim U φ h w) (hb : h b = some ⟨.row r, g, m⟩) (hm : m ≠ 0) (hm' : m' = 1 ∨ m' = 2) (hio : m' = 2 → m = 2) (hφ : φ' k = φ b) : BlkOk U φ' h' w k ⟨.row r, g', m'⟩ := by
  unfold BlkOk
  have h0 : m' ≠ 0 := by omega
  simp only [h0, if_false]
  split
  · rename_i h2
    obtain rfl := hio h2
    rcases hs.own hb with ⟨x, hx, hl, hn⟩ | ⟨a, ha, hsp, cs, t, lo, hi, hc, hf, hcells⟩
    · exact .inl ⟨x, hx, hl, hφ.trans hn⟩
    · refine .inr ⟨a, hφ.trans ha, hsp, cs, t, lo, hi, hc, hf, fun i c hi => ?_⟩
      obtain ⟨v, hv, hr⟩ := hcells i c hi
      exact ⟨v, hv, hr.plain U (flat_plain hi)⟩
  · rcases hs.cells hb hm with h1 | ⟨a, ha, hcells⟩
    · exact .inl h1
    · refine .inr ⟨a, hφ.trans ha, fun i c hi => ?_⟩
      obtain ⟨v, hv, hr⟩ := hcells i c hi
      exact ⟨v, hv, hr.plain U (flat_plain hi)⟩
theorem blk_cut {φ' : Phi} {h' : Hp R} {b k g g' m lo n : Nat} {r : R} (hs : Sim U φ h w) (hb : h b = some ⟨.row r, g, m⟩) (hm : m ≠ 0) (hφ : φ' k = (φ b).map fun a => a.add (lo * U.esz (U.tag r))) : BlkOk U φ' h' w k ⟨.row (U.cut r lo n), g', 1⟩ := by
  unfold BlkOk
  simp only [Nat.one_ne_zero, if_false, show (1 : Nat) ≠ 2 by omega]
  rcases hs.cells hb hm with ⟨h1, _⟩ | ⟨a, ha, hcells⟩
  · exact .inl ⟨by rw [flat_cut, h1]; simp, fun cs hc => by simp at hc⟩
  · refine .inr ⟨a.add (lo * U.esz (U.tag r)), by rw [hφ, ha]; rfl, fun i c hi => ?_⟩
    have hp := flat_plain hi
    rw [flat_cut, List.getElem?_take] at hi
    split at hi
    · rw [List.getElem?_drop] at hi
      obtain ⟨v, hv, hr⟩ := hcells _ c hi
      exact ⟨v, by rw [add_add]; exact hv, hr.plain U hp⟩
    · simp at hi
/-- A part of a variable. -/
theorem blk_box {φ' : Phi} {h' : Hp R} {b k g g' m m' off : Nat} {cs cs' : List C} {us : List Value} (hs : Sim U φ h w) (hb : h b = some ⟨.box cs, g, m⟩) (hm : m ≠ 0) (hm' : m' = 1 ∨ m' = 2) (hio : m' = 2 → m = 2) (hφ : φ' k = (φ b).map fun a => a.add off)
    (hcell : ∀ a, φ b = some a → ∀ (j : Nat) u, us[j]? = some u → w.cell? (a.add (off + j)) = some u) (hr : All2 (RelC U φ' h' w) cs' us) : BlkOk U φ' h' w k ⟨.box cs', g', m'⟩ := by
  unfold BlkOk
  have h0 : m' ≠ 0 := by omega
  simp only [h0, if_false]
  split
  · rename_i h2
    obtain rfl := hio h2
    rcases hs.own hb with ⟨x, hx, _⟩ | ⟨a, ha, hsp, cs0, t, lo, hi, hc, hf, hcells⟩
    · simp at hx
    · refine .inr ⟨a.add off, by rw [hφ, ha]; rfl, by rw [add_off hsp], cs0, t, lo, hi, by rw [add_block]; exact hc, hf, fun i c hi => ?_⟩
      obtain ⟨u, hu, hr⟩ := hr.get hi
      have := hcell a ha i u hu
      rw [cell_off hsp hc] at this
      exact ⟨u, by rw [add_off hsp]; simp only; rw [Nat.add_assoc]; exact this, hr⟩
  · rcases hs.cells hb hm with ⟨_, h1⟩ | ⟨a, ha, hcells⟩
    · exact absurd rfl (h1 cs)
    · refine .inr ⟨a.add off, by rw [hφ, ha]; rfl, fun i c hi => ?_⟩
      obtain ⟨u, hu, hr⟩ := hr.get hi
      exact ⟨u, by rw [add_add]; exact hcell a ha i u hu, hr⟩

theorem phW_new {ws : Wins R} {x : Src × Blk R} : phW U φ (ws ++ [x]) ws.length = adr U φ x := by simp [phW]
theorem hpW_new {ws : Wins R} {x : Src × Blk R} : hpW (ws ++ [x]) ws.length = some x.2 := by simp [hpW]

/-- What the telling of a cell keeps. -/
def ExOk (U : RowU R) (φ : Phi) (h : Hp R) (w : World) (ws ws' : Wins R) : Prop := WStep ws ws' ∧ WOk U φ h w ws'

theorem fold_ptrs {cs : List C} {bs : List Nat} (hf : cs.foldr (fun c acc => match c, acc with | .ptr b 0, some bs => some (b :: bs) | _, _ => none) (some []) = some bs) : cs = bs.map fun b => .ptr b 0 := by
  induction cs generalizing bs with
  | nil => simp at hf; subst hf; rfl
  | cons c cs ih =>
    simp only [List.foldr_cons] at hf
    split at hf
    · rename_i b bs' h1
      simp at hf; subst hf
      rw [ih h1]; rfl
    · simp at hf

theorem box_set {ws ws1 : Wins R} {x : Src × Blk R} {cs' : List C} (h : WStep (ws ++ [x]) ws1) (hx : x.2.k = .box []) : ∃ y, ws1[ws.length]? = some y ∧ WSame y (x.1, ⟨.box cs', x.2.g, x.2.m⟩) ∧ WSame x y := by
  obtain ⟨y, hy, s⟩ := h ws.length x (by simp)
  refine ⟨y, hy, ⟨s.src.symm, s.g.symm, s.m.symm, ?_⟩, s⟩
  rcases s.k with e | ⟨_, c2, _, e2⟩
  · exact .inr ⟨[], cs', by rw [e, hx], rfl⟩
  · exact .inr ⟨c2, cs', e2, rfl⟩

theorem ex_step : ∀ (d : Nat),
    (∀ (ws : Wins R) (c c' : C) (ws' : Wins R), exC U win L d ws c = some (c', ws') → WStep ws ws') ∧
    (∀ (ws : Wins R) (cs cs' : List C) (ws' : Wins R), exL U win L d ws cs = some (cs', ws') → WStep ws ws') := by
  intro d
  induction d with
  | zero => exact ⟨fun ws c c' ws' he => by simp [exC] at he, fun ws cs cs' ws' he => by simp [exL] at he⟩
  | succ d ih =>
    obtain ⟨ihC, ihL⟩ := ih
    refine ⟨fun ws c c' ws' he => ?_, fun ws cs cs' ws' he => ?_⟩
    · rcases hq : win.getD ws.length (false, 0) with ⟨io, sz⟩
      unfold exC at he
      simp only [hq] at he
      cases c with
      | int k n => simp at he; obtain ⟨rfl, rfl⟩ := he; exact .refl
      | bool b => simp at he; obtain ⟨rfl, rfl⟩ := he; exact .refl
      | str s => simp at he; obtain ⟨rfl, rfl⟩ := he; exact .refl
      | nilp => simp at he; obtain ⟨rfl, rfl⟩ := he; exact .refl
      | j => simp at he; obtain ⟨rfl, rfl⟩ := he; exact .refl
      | pr => simp at he
      | sf => simp at he
      | ub => simp at he
      | sb b n =>
        simp only at he
        split at he
        · rename_i k' ws1 h1
          simp at he; obtain ⟨rfl, rfl⟩ := he
          exact ihC _ _ _ _ h1
        · simp at he
      | nils tag =>
        simp only at he
        split at he
        · simp at he; obtain ⟨rfl, rfl⟩ := he; exact .refl
        · simp only [Option.map_eq_some_iff] at he
          obtain ⟨r, hlit, he⟩ := he
          simp at he; obtain ⟨rfl, rfl⟩ := he
          exact .app _
      | sl b g =>
        simp only at he
        split at he
        · split at he
          · simp at he
          · split at he
            · simp at he; obtain ⟨rfl, rfl⟩ := he; exact .app _
            · simp at he
        · simp at he
      | sc b g lo n =>
        simp only at he
        split at he
        · split at he
          · simp at he
          · split at he
            · simp at he; obtain ⟨rfl, rfl⟩ := he; exact .app _
            · simp at he
        · simp at he
      | ptr b off =>
        simp only at he
        split at he
        · rename_i cs g m hL
          split at he
          · simp at he
          · generalize hn : (if sz = 0 then cs.length - off else sz) = n at he
            split at he
            · split at he
              · rename_i cs1 ws1 hex
                simp at he; obtain ⟨rfl, rfl⟩ := he
                have h1 := ihL _ _ _ _ hex
                obtain ⟨y, hy, s, _⟩ := box_set (cs' := cs1) h1 rfl
                exact (WStep.app _).trans (h1.trans (.set hy s))
              · simp at he
            · simp at he
        · simp at he
      | fn f caps =>
        simp only at he
        split at he
        · rename_i cs1 ws1 hex
          split at he
          · simp at he; obtain ⟨rfl, rfl⟩ := he
            exact ihL _ _ _ _ hex
          · simp at he
        · simp at he
    · unfold exL at he
      cases cs with
      | nil => simp at he; obtain ⟨rfl, rfl⟩ := he; exact .refl
      | cons c cs =>
        simp only at he
        split at he
        · rename_i c1 ws1 h1
          split at he
          · rename_i cs1 ws2 h2
            simp at he; obtain ⟨rfl, rfl⟩ := he
            exact (ihC _ _ _ _ h1).trans (ihL _ _ _ _ h2)
          · simp at he
        · simp at he

theorem ex_ok (hs : Sim U φ h w) : ∀ (d : Nat),
    (∀ (ws : Wins R) (c c' : C) (ws' : Wins R) (v : Value), exC U win L d ws c = some (c', ws') → WOk U φ h w ws → (∀ b ∈ touched ws', h b = L[b]?) → RelC U φ h w c v → ExOk U φ h w ws ws' ∧ RelC U (phW U φ ws') (hpW ws') w c' v) ∧
    (∀ (ws : Wins R) (cs cs' : List C) (ws' : Wins R) (vs : List Value), exL U win L d ws cs = some (cs', ws') → WOk U φ h w ws → (∀ b ∈ touched ws', h b = L[b]?) → All2 (RelC U φ h w) cs vs → ExOk U φ h w ws ws' ∧ All2 (RelC U (phW U φ ws') (hpW ws') w) cs' vs) := by
  intro d
  induction d with
  | zero => exact ⟨fun ws c c' ws' v he => by simp [exC] at he, fun ws cs cs' ws' vs he => by simp [exL] at he⟩
  | succ d ih =>
    obtain ⟨ihC, ihL⟩ := ih
    refine ⟨fun ws c c' ws' v he hw hA hr => ?_, fun ws cs cs' ws' vs he hw hA hr => ?_⟩
    · rcases hq : win.getD ws.length (false, 0) with ⟨io, sz⟩
      unfold exC at he
      simp only [hq] at he
      cases c with
      | int k n => simp at he; obtain ⟨rfl, rfl⟩ := he; exact ⟨⟨.refl, hw⟩, hr⟩
      | bool b => simp at he; obtain ⟨rfl, rfl⟩ := he; exact ⟨⟨.refl, hw⟩, hr⟩
      | str s => simp at he; obtain ⟨rfl, rfl⟩ := he; exact ⟨⟨.refl, hw⟩, hr⟩
      | nilp => simp at he; obtain ⟨rfl, rfl⟩ := he; exact ⟨⟨.refl, hw⟩, hr⟩
      | j => simp at he; obtain ⟨rfl, rfl⟩ := he; exact ⟨⟨.refl, hw⟩, hr⟩
      | pr => simp at he
      | sf => simp at he
      | ub => simp at he
      | sb b n =>
        simp only at he
        split at he
        · rename_i k' ws1 h1
          simp at he; obtain ⟨rfl, rfl⟩ := he
          obtain ⟨ad, hp, rfl⟩ := hr
          obtain ⟨q1, q2⟩ := ihC _ _ _ _ _ h1 hw hA hp
          exact ⟨q1, ad, q2, rfl⟩
        · simp at he
      | nils tag =>
        simp only at he
        split at he
        · simp at he; obtain ⟨rfl, rfl⟩ := he; exact ⟨⟨.refl, hw⟩, hr⟩
        · rename_i hne
          clear hne
          simp only [Option.map_eq_some_iff] at he
          obtain ⟨r, hlit, he⟩ := he
          simp at he; obtain ⟨rfl, rfl⟩ := he
          obtain ⟨hl, hf⟩ := lit_nil hlit
          refine ⟨⟨.app _, hw.ap ⟨rfl, winM_or io, r, rfl, hl⟩ ?_⟩, ?_⟩
          · unfold BlkOk
            have h0 : winM io ≠ 0 := by rcases winM_or io with e | e <;> omega
            simp only [h0, if_false]
            split
            · exact .inl ⟨r, rfl, hl, by rw [phW_new]; rfl⟩
            · exact .inl ⟨hf, fun cs hc => by simp at hc⟩
          · have hv : v = .slice none 0 0 := hr
            subst hv
            refine ⟨rfl, _, hpW_new, Nat.le_refl _, fun _ _ r' hr' => ?_⟩
            simp at hr'; subst hr'
            rw [hl]
            exact ⟨by omega, none, 0, rfl, Nat.le_refl _, fun _ => by omega, .inl (.inl rfl)⟩
      | sl b g =>
        simp only at he
        split at he
        · rename_i r g' m hL
          split at he
          · simp at he
          · rename_i hcond
            split at he
            · rename_i hg; subst hg
              simp at he; obtain ⟨rfl, rfl⟩ := he
              have hm : m ≠ 0 := fun e => hcond (.inl e)
              have hio : winM io = 2 → m = 2 := fun e => Classical.byContradiction fun e2 => hcond (.inr ⟨winM_two e, e2⟩)
              have hb : h b = some ⟨.row r, g', m⟩ := by rw [hA b (by simp [touched, Src.blk])]; exact hL
              refine ⟨⟨.app _, hw.ap ⟨rfl, winM_or io, r, m, hb, hm, hio, rfl⟩ (blk_row hs hb hm (winM_or io) hio (by rw [phW_new]; rfl))⟩, ?_⟩
              have hsl := rel_sl hr hb hm
              refine ⟨RelC.one U hr, _, hpW_new, Nat.le_refl _, fun _ _ r' hr' => ?_⟩
              simp at hr'; subst hr'
              obtain ⟨h0, A, cap, rfl, h1, h2, h3⟩ := hsl
              refine ⟨h0, A, cap, rfl, h1, fun e => h2 (hio e), ?_⟩
              rcases h3 with h3 | ⟨a, ha, hA', hsz⟩
              · exact .inl (h3.imp id fun ⟨p, q⟩ => ⟨p, fun e => q (hio e)⟩)
              · exact .inr ⟨a, by rw [phW_new]; exact ha, hA', fun e => hsz (hio e)⟩
            · simp at he
        · simp at he
      | sc b g lo n =>
        simp only at he
        split at he
        · rename_i r g' m hL
          split at he
          · simp at he
          · rename_i hcond
            split at he
            · rename_i hg; subst hg
              simp at he; obtain ⟨rfl, rfl⟩ := he
              have hm : m ≠ 0 := fun e => hcond (.inl e)
              have hb : h b = some ⟨.row r, g', m⟩ := by rw [hA b (by simp [touched, Src.blk])]; exact hL
              obtain ⟨h0, A, cap, rfl, h1, h2, h3⟩ := rel_sc hr hb hm
              have htag := (U.cut_eq r lo n).1
              have hlen := len_cut r lo n h0
              refine ⟨⟨.app _, hw.ap ⟨rfl, .inl rfl, r, m, hb, hm, h0, rfl, rfl⟩ (blk_cut hs hb hm (by rw [phW_new]; simp [adr, htag]))⟩, ?_⟩
              refine ⟨rfl, _, hpW_new, Nat.le_refl _, fun _ _ r' hr' => ?_⟩
              simp at hr'; subst hr'
              rw [hlen]
              refine ⟨by omega, A, cap, rfl, h1, fun e => by simp at e, ?_⟩
              rcases h3 with h3 | ⟨a, ha, hA', hsz⟩
              · exact .inl (h3.imp id fun ⟨p, _⟩ => ⟨p, by simp⟩)
              · exact .inr ⟨a.add (lo * U.esz (U.tag r)), by rw [phW_new]; simp [adr, htag, ha], by rw [hA', htag, Nat.zero_mul, add_zero'], fun e => by simp at e⟩
            · simp at he
        · simp at he
      | ptr b off =>
        simp only at he
        split at he
        · rename_i cs g m hL
          split at he
          · simp at he
          · rename_i hcond
            have hm : m ≠ 0 := fun e => hcond (.inl e)
            have hio : winM io = 2 → m = 2 := fun e => Classical.byContradiction fun e2 => hcond (.inr ⟨winM_two e, e2⟩)
            generalize hn : (if sz = 0 then cs.length - off else sz) = n at he
            split at he
            · rename_i hle
              have hwh : winM io = 2 → m = 2 ∧ off = 0 ∧ n = cs.length := fun e => ⟨hio e, hle.2 (winM_two e)⟩
              replace hle := hle.1
              split at he
              · rename_i cs1 ws1 hex
                simp at he; obtain ⟨rfl, rfl⟩ := he
                have hst := (ex_step (U := U) (win := win) (L := L) d).2 _ _ _ _ hex
                obtain ⟨y, hy, s1, s2⟩ := box_set (cs' := cs1) hst rfl
                have hset := WStep.set hy s1
                have hb : h b = some ⟨.box cs, g, m⟩ := by
                  rw [hA b (touched_step (hst.trans hset) b (by simp [touched, Src.blk]))]; exact hL
                have hA1 : ∀ b ∈ touched ws1, h b = L[b]? := fun b hb => hA b (touched_step hset b hb)
                have hw1 : WOk U φ h w (ws ++ [(.box b off n, ⟨.box [], 0, winM io⟩)]) :=
                  hw.ap ⟨rfl, winM_or io, cs, g, m, hb, hm, hwh, hle, [], rfl⟩ (blk_box (us := []) hs hb hm (winM_or io) hio (by rw [phW_new]; rfl) (fun a _ j u hu => by simp at hu) .nil)
                obtain ⟨_, _, _, hb2, _, ad, had, hv⟩ := hr
                have hus : ∃ us : List Value, All2 (RelC U φ h w) ((cs.drop off).take n) us ∧ ∀ (j : Nat) u, us[j]? = some u → w.cell? (ad.add (off + j)) = some u := by
                  rcases hs.cells hb hm with ⟨_, hn1⟩ | ⟨a, ha, hcells⟩
                  · exact absurd rfl (hn1 cs)
                  · rw [had] at ha; simp at ha; subst ha
                    refine All2.exists_ (f := fun j => w.cell? (ad.add (off + j))) fun j c hj => ?_
                    rw [List.getElem?_take] at hj
                    split at hj
                    · rw [List.getElem?_drop] at hj
                      exact hcells _ c hj
                    · simp at hj
                obtain ⟨us, hus1, hus2⟩ := hus
                obtain ⟨⟨_, hw2⟩, hrl⟩ := ihL _ _ _ _ us hex hw1 hA1 hus1
                have hph : phW U φ (ws1.set ws.length (.box b off n, ⟨.box cs1, 0, winM io⟩)) ws.length = (φ b).map fun a => a.add off := by
                  rw [hset.phi (List.getElem?_eq_some_iff.1 hy).1, hst.phi (by simp), phW_new]; rfl
                have hlt := (List.getElem?_eq_some_iff.1 hy).1
                refine ⟨⟨(WStep.app _).trans (hst.trans hset), hw2.put hy s1 ⟨rfl, winM_or io, cs, g, m, hb, hm, hwh, hle, cs1, rfl⟩ (blk_box (us := us) hs hb hm (winM_or io) hio hph (fun a ha j u hu => ?_) (hrl.mono fun _ _ h => h.mono hset.ext))⟩, ?_⟩
                · rw [had] at ha; simp at ha; subst ha; exact hus2 j u hu
                · refine ⟨cs1, 0, winM io, by simp [hpW, List.getElem?_set_self hlt], by rcases winM_or io with e | e <;> omega, ad.add off, by rw [hph, had]; rfl, ?_⟩
                  rw [hv, add_zero']
              · simp at he
            · simp at he
        · simp at he
      | fn f caps =>
        simp only at he
        split at he
        · rename_i cs1 ws1 hex
          split at he
          · rename_i bs hfold
            simp at he; obtain ⟨rfl, rfl⟩ := he
            obtain ⟨vs, rfl, ha⟩ := hr
            obtain ⟨h1, h2⟩ := ihL ws _ cs1 ws1 vs hex hw hA (All2.map (f := fun b => C.ptr b 0) ha)
            rw [fold_ptrs hfold] at h2
            exact ⟨h1, vs, rfl, All2.of_map h2⟩
          · simp at he
        · simp at he
    · unfold exL at he
      cases cs with
      | nil => simp at he; obtain ⟨rfl, rfl⟩ := he; exact ⟨⟨.refl, hw⟩, by rw [hr.inv_nil]; exact .nil⟩
      | cons c cs =>
        simp only at he
        split at he
        · rename_i c1 ws1 h1
          split at he
          · rename_i cs1 ws2 h2
            simp at he; obtain ⟨rfl, rfl⟩ := he
            obtain ⟨v, vs', rfl, hrc, hrl⟩ := hr.inv_cons
            have hst := (ex_step (U := U) (win := win) (L := L) d).2 _ _ _ _ h2
            obtain ⟨⟨p1, p2⟩, p3⟩ := ihC _ _ _ _ v h1 hw (fun b hb => hA b (touched_step hst b hb)) hrc
            obtain ⟨⟨q1, q2⟩, q3⟩ := ihL _ _ _ _ vs' h2 p2 hA hrl
            exact ⟨⟨p1.trans q1, q2⟩, q3.cons (p3.mono hst.ext)⟩
          · simp at he
        · simp at he
theorem exVs_step : ∀ (vs : List V) (ws : Wins R) (vs' : List V) (ws' : Wins R), exVs U win L ws vs = some (vs', ws') → WStep ws ws' := by
  intro vs
  induction vs with
  | nil => intro ws vs' ws' he; simp [exVs] at he; obtain ⟨_, rfl⟩ := he; exact .refl
  | cons v vs ih =>
    intro ws vs' ws' he
    simp only [exVs] at he
    split at he
    · split at he
      · rename_i h1
        obtain ⟨⟨x1, x2⟩, h2, he⟩ := Option.map_eq_some_iff.1 he
        simp at he; obtain ⟨_, rfl⟩ := he
        exact ((ex_step 400).1 _ _ _ _ h1).trans (ih _ _ _ h2)
      · simp at he
    · split at he
      · rename_i h1
        obtain ⟨⟨x1, x2⟩, h2, he⟩ := Option.map_eq_some_iff.1 he
        simp at he; obtain ⟨_, rfl⟩ := he
        exact ((ex_step 400).2 _ _ _ _ h1).trans (ih _ _ _ h2)
      · simp at he
    · simp at he

theorem exVs_ok (hs : Sim U φ h w) : ∀ (vs : List V) (ws : Wins R) (vs' : List V) (ws' : Wins R) (us : List Value), exVs U win L ws vs = some (vs', ws') → WOk U φ h w ws → (∀ b ∈ touched ws', h b = L[b]?) → All2 (RelV U φ h w) vs us →
    WOk U φ h w ws' ∧ All2 (RelV U (phW U φ ws') (hpW ws') w) vs' us := by
  intro vs
  induction vs with
  | nil =>
    intro ws vs' ws' us he hw hA hr
    simp [exVs] at he; obtain ⟨rfl, rfl⟩ := he
    exact ⟨hw, by rw [hr.inv_nil]; exact .nil⟩
  | cons v vs ih =>
    intro ws vs' ws' us he hw hA hr
    obtain ⟨u, us', rfl, hrc, hrl⟩ := hr.inv_cons
    simp only [exVs] at he
    split at he
    · split at he
      · rename_i h1
        obtain ⟨⟨x1, x2⟩, h2, he⟩ := Option.map_eq_some_iff.1 he
        simp at he; obtain ⟨rfl, rfl⟩ := he
        have hst := exVs_step _ _ _ _ h2
        obtain ⟨⟨_, q1⟩, q2⟩ := (ex_ok hs 400).1 _ _ _ _ u h1 hw (fun b hb => hA b (touched_step hst b hb)) hrc
        obtain ⟨r1, r2⟩ := ih _ _ _ us' h2 q1 hA hrl
        exact ⟨r1, r2.cons (RelV.mono hst.ext q2)⟩
      · simp at he
    · split at he
      · rename_i h1
        obtain ⟨⟨x1, x2⟩, h2, he⟩ := Option.map_eq_some_iff.1 he
        simp at he; obtain ⟨rfl, rfl⟩ := he
        have hst := exVs_step _ _ _ _ h2
        obtain ⟨es, rfl, hes⟩ := hrc
        obtain ⟨⟨_, q1⟩, q2⟩ := (ex_ok hs 400).2 _ _ _ _ es h1 hw (fun b hb => hA b (touched_step hst b hb)) hes
        obtain ⟨r1, r2⟩ := ih _ _ _ us' h2 q1 hA hrl
        exact ⟨r1, r2.cons ⟨es, rfl, q2.mono fun _ _ h => h.mono hst.ext⟩⟩
      · simp at he
    · simp at he

theorem WOk.nil : WOk U φ h w [] := ⟨fun k x hx => by simp at hx, fun k x hx => by simp at hx⟩

/-- The block that a window is of. -/
theorem src_blk {x : Src × Blk R} {b : Nat} (hs : SrcOk U h x) (hb : x.1.blk = some b) : ∃ blk, h b = some blk ∧ blk.m ≠ 0 ∧ (x.2.m = 2 → blk.m = 2) := by
  obtain ⟨_, _, hs⟩ := hs
  obtain ⟨s, k⟩ := x
  cases s with
  | row b' g =>
    simp [Src.blk] at hb; subst hb
    obtain ⟨r, m, h1, h2, h3, _⟩ := hs
    exact ⟨_, h1, h2, h3⟩
  | cut b' g lo n =>
    simp [Src.blk] at hb; subst hb
    obtain ⟨r, m, h1, h2, _, h3, _⟩ := hs
    exact ⟨_, h1, h2, fun e => by simp at h3 e; omega⟩
  | box b' off n =>
    simp [Src.blk] at hb; subst hb
    obtain ⟨cs, g, m, h1, h2, h3, _⟩ := hs
    exact ⟨_, h1, h2, fun e => (h3 e).1⟩
  | nil t => simp [Src.blk] at hb
theorem adr_blk {x : Src × Blk R} {a : Addr} (ha : adr U φ x = some a) : ∃ b a0, x.1.blk = some b ∧ φ b = some a0 ∧ a.block = a0.block := by
  obtain ⟨s, k⟩ := x
  cases s with
  | row b g => exact ⟨b, a, rfl, ha, rfl⟩
  | cut b g lo n =>
    obtain ⟨a0, h1, rfl⟩ := Option.map_eq_some_iff.1 ha
    exact ⟨b, a0, rfl, h1, add_block ..⟩
  | box b off n =>
    obtain ⟨a0, h1, rfl⟩ := Option.map_eq_some_iff.1 ha
    exact ⟨b, a0, rfl, h1, add_block ..⟩
  | nil t => simp [adr] at ha

theorem lone_ne {ws : Wins R} (hl : lone1 ws = true) {k k' : Nat} {x x' : Src × Blk R} {b : Nat} (hk : ws[k]? = some x) (hk' : ws[k']? = some x') (hne : k ≠ k') (hm : x.2.m = 2) (hb : x.1.blk = some b) : x'.1.blk ≠ some b := by
  unfold lone1 at hl
  rw [List.all_eq_true] at hl
  have h1 := hl (x, k) (by rw [List.mem_zipIdx_iff_getElem?]; simpa using hk)
  simp only [hm, hb, bne_self_eq_false, Bool.false_or] at h1
  rw [List.all_eq_true] at h1
  have h2 := h1 (x', k') (by rw [List.mem_zipIdx_iff_getElem?]; simpa using hk')
  simp only [Bool.or_eq_true, beq_iff_eq, bne_iff_ne] at h2
  rcases h2 with h2 | h2
  · exact absurd h2 hne
  · exact h2

/-- THE CALLEE'S HEAP STANDS FOR THE WORLD. -/
theorem win_sim {ws : Wins R} (hs : Sim U φ h w) (hw : WOk U φ h w ws) (hl : lone1 ws = true) : Sim U (phW U φ ws) (hpW ws) w := by
  refine ⟨fun k blk a hb hm ha => ?_, fun k blk hb => ?_, fun k k' blk blk' a a' hne hb hb' hm hm' ha ha' => ?_⟩
  · obtain ⟨x, hx, rfl⟩ := Option.map_eq_some_iff.1 hb
    simp only [phW, hx, Option.bind_some] at ha
    obtain ⟨b, a0, h1, h2, h3⟩ := adr_blk ha
    obtain ⟨blk, h4, h5, _⟩ := src_blk (hw.src k x hx) h1
    rw [h3]
    exact hs.lt b blk a0 h4 h5 h2
  · obtain ⟨x, hx, rfl⟩ := Option.map_eq_some_iff.1 hb
    exact hw.blk k x hx
  · obtain ⟨x, hx, rfl⟩ := Option.map_eq_some_iff.1 hb
    obtain ⟨x', hx', rfl⟩ := Option.map_eq_some_iff.1 hb'
    simp only [phW, hx, Option.bind_some] at ha
    simp only [phW, hx', Option.bind_some] at ha'
    obtain ⟨b, a0, h1, h2, h3⟩ := adr_blk ha
    obtain ⟨b', a0', h1', h2', h3'⟩ := adr_blk ha'
    obtain ⟨blk, h4, h5, h6⟩ := src_blk (hw.src k x hx) h1
    obtain ⟨blk', h4', h5', _⟩ := src_blk (hw.src k' x' hx') h1'
    have hbb : b ≠ b' := fun e => lone_ne hl hx hx' hne hm h1 (by rw [h1', e])
    rw [h3, h3']
    exact hs.apart b b' blk blk' a0 a0' hbb h4 h4' (h6 hm) h5' h2 h2'
end
end Go.Eng
/- The engine, part 19: the caller's heap behind a call. -/
namespace Go.Eng
section
variable {R : Type} {U : RowU R}

theorem findW_some {b : Nat} : ∀ {ws : Wins R} {k0 k : Nat}, findW b k0 ws = some k → k0 ≤ k ∧ ∃ x, ws[k - k0]? = some x ∧ x.2.m = 2 ∧ x.1.blk = some b := by
  intro ws
  induction ws with
  | nil => intro k0 k h; simp [findW] at h
  | cons x xs ih =>
    intro k0 k h
    simp only [findW] at h
    split at h
    · rename_i hc
      simp at h; subst h
      exact ⟨Nat.le_refl _, x, by simp, hc.1, hc.2⟩
    · obtain ⟨h1, y, h2, h3⟩ := ih h
      refine ⟨by omega, y, ?_, h3⟩
      rw [show k - k0 = (k - (k0 + 1)) + 1 by omega]
      simpa using h2
theorem findW_none {b : Nat} : ∀ {ws : Wins R} {k0 : Nat}, findW b k0 ws = none → ∀ (i : Nat) x, ws[i]? = some x → x.2.m = 2 → x.1.blk ≠ some b := by
  intro ws
  induction ws with
  | nil => intro k0 _ i x h; simp at h
  | cons y xs ih =>
    intro k0 h i x hx hm hb
    simp only [findW] at h
    split at h
    · simp at h
    · rename_i hc
      cases i with
      | zero => simp at hx; subst hx; exact hc ⟨hm, hb⟩
      | succ i => exact ih h i x (by simpa using hx) hm hb
theorem nilsW_get : ∀ {ws : Wins R} {k0 k : Nat}, k ∈ nilsW k0 ws → k0 ≤ k ∧ ∃ x, ws[k - k0]? = some x ∧ x.2.m = 2 ∧ x.1.blk = none := by
  intro ws
  induction ws with
  | nil => intro k0 k h; simp [nilsW] at h
  | cons x xs ih =>
    intro k0 k h
    simp only [nilsW] at h
    have step : k ∈ nilsW (k0 + 1) xs → k0 ≤ k ∧ ∃ y, (x :: xs)[k - k0]? = some y ∧ y.2.m = 2 ∧ y.1.blk = none := by
      intro h
      obtain ⟨h1, y, h2, h3⟩ := ih h
      refine ⟨by omega, y, ?_, h3⟩
      rw [show k - k0 = (k - (k0 + 1)) + 1 by omega]
      simpa using h2
    split at h
    · rename_i hc
      rcases List.mem_cons.1 h with rfl | h
      · exact ⟨Nat.le_refl _, x, by simp, hc⟩
      · exact step h
    · exact step h
theorem nilsW_mem : ∀ {ws : Wins R} {k0 i : Nat} {x : Src × Blk R}, ws[i]? = some x → x.2.m = 2 → x.1.blk = none → k0 + i ∈ nilsW k0 ws := by
  intro ws
  induction ws with
  | nil => intro k0 i x h; simp at h
  | cons y xs ih =>
    intro k0 i x hx hm hb
    simp only [nilsW]
    cases i with
    | zero => simp at hx; subst hx; rw [if_pos ⟨hm, hb⟩]; simp
    | succ i =>
      have := ih (k0 := k0 + 1) (i := i) (by simpa using hx) hm hb
      rw [show k0 + (i + 1) = k0 + 1 + i by omega]
      split
      · exact List.mem_cons_of_mem _ this
      · exact this
theorem nilsW_nodup : ∀ {ws : Wins R} {k0 : Nat}, (nilsW k0 ws).Nodup := by
  intro ws
  induction ws with
  | nil => intro k0; simp [nilsW]
  | cons x xs ih =>
    intro k0
    simp only [nilsW]
    split
    · refine List.nodup_cons.2 ⟨fun h => ?_, ih⟩
      have := (nilsW_get h).1
      omega
    · exact ih
theorem findN_some {b : Nat} : ∀ {xs : List Nat} {i0 i : Nat}, findN b i0 xs = some i → i0 ≤ i ∧ xs[i - i0]? = some b := by
  intro xs
  induction xs with
  | nil => intro i0 i h; simp [findN] at h
  | cons x xs ih =>
    intro i0 i h
    simp only [findN] at h
    split at h
    · rename_i e; simp at h; subst h; subst e; simp
    · obtain ⟨h1, h2⟩ := ih h
      refine ⟨by omega, ?_⟩
      rw [show i - i0 = (i - (i0 + 1)) + 1 by omega]
      simpa using h2
theorem mapIx_len {α β : Type} {f : Nat → α → β} : ∀ {xs : List α} {k : Nat}, (mapIx f k xs).length = xs.length := by
  intro xs
  induction xs with
  | nil => intro k; rfl
  | cons x xs ih => intro k; simp [mapIx, ih]
theorem mapIx_get {α β : Type} {f : Nat → α → β} : ∀ {xs : List α} {k i : Nat}, (mapIx f k xs)[i]? = (xs[i]?).map (f (k + i)) := by
  intro xs
  induction xs with
  | nil => intro k i; simp [mapIx]
  | cons x xs ih =>
    intro k i
    cases i with
    | zero => simp [mapIx]
    | succ i => simp only [mapIx, List.getElem?_cons_succ, ih]; rw [show k + 1 + i = k + (i + 1) by omega]
theorem backOk_get {H : Heap R} : ∀ {ws : Wins R} {k0 i : Nat} {x : Src × Blk R}, backOk H k0 ws = true → ws[i]? = some x → x.2.m = 2 →
    ∃ blk, H[k0 + i]? = some blk ∧ blk.m = 2 ∧ ((∃ cs, blk.k = .box cs) ↔ ∃ b off n, x.1 = .box b off n) ∧ ∀ b g lo n, x.1 ≠ .cut b g lo n := by
  intro ws
  induction ws with
  | nil => intro k0 i x _ h; simp at h
  | cons y xs ih =>
    intro k0 i x hb hx hm
    simp only [backOk, Bool.and_eq_true] at hb
    cases i with
    | zero =>
      simp at hx; subst hx
      have h1 := hb.1
      rw [if_pos hm] at h1
      rw [Nat.add_zero]
      split at h1
      · rename_i e1 e2
        exact ⟨_, e2, rfl, by simp [e1], by simp [e1]⟩
      · rename_i e1 e2
        exact ⟨_, e2, rfl, by simp [e1], by simp [e1]⟩
      · rename_i e1 e2
        exact ⟨_, e2, rfl, by simp [e1], by simp [e1]⟩
      · simp at h1
    | succ i =>
      obtain ⟨blk, h1, h2⟩ := ih hb.2 (by simpa using hx) hm
      exact ⟨blk, by rw [show k0 + (i + 1) = k0 + 1 + i by omega]; exact h1, h2⟩

/-- Which block of the callee is this block of the caller behind the call. -/
def kOf (ws : Wins R) (L H : Heap R) (b : Nat) : Option Nat :=
  if b < L.length then findW b 0 ws
  else if b < L.length + (H.length - ws.length) then some (b - L.length + ws.length)
  else (nilsW 0 ws)[b - L.length - (H.length - ws.length)]?
def phB (φ φ' : Phi) (ws : Wins R) (L H : Heap R) : Phi := fun b => match kOf ws L H b with
  | some k => φ' k
  | none => φ b
def hpB (h : Hp R) (ws : Wins R) (L H : Heap R) : Hp R := upd h (backL ws L H) (written ws ++ newIx L (backL ws L H))

theorem backL_len (ws : Wins R) (L H : Heap R) : (backL ws L H).length = L.length + (H.length - ws.length) + (nilsW 0 ws).length := by
  simp [backL, mapIx_len]; omega
theorem newIx_mem {L L' : Heap R} {b : Nat} : b ∈ newIx L L' ↔ L.length ≤ b ∧ b < L'.length := by
  unfold newIx
  rw [List.mem_range'_1]
  omega
theorem written_mem {ws : Wins R} {b : Nat} : b ∈ written ws ↔ ∃ (k : Nat) (x : Src × Blk R), ws[k]? = some x ∧ x.2.m = 2 ∧ x.1.blk = some b := by
  constructor
  · intro hb
    obtain ⟨x, hx, h1⟩ := List.mem_filterMap.1 hb
    obtain ⟨k, hk⟩ := List.getElem?_of_mem hx
    split at h1
    · exact ⟨k, x, hk, by assumption, h1⟩
    · simp at h1
  · rintro ⟨k, x, hk, hm, hb⟩
    exact List.mem_filterMap.2 ⟨x, List.mem_of_getElem? hk, by rw [if_pos hm]; exact hb⟩
theorem touched_mem {ws : Wins R} {k : Nat} {x : Src × Blk R} {b : Nat} (hk : ws[k]? = some x) (hb : x.1.blk = some b) : b ∈ touched ws :=
  List.mem_filterMap.2 ⟨x, List.mem_of_getElem? hk, hb⟩

/-- All that is known when a callee is done. -/
structure Came (U : RowU R) (φ : Phi) (h : Hp R) (w : World) (ws : Wins R) (L H : Heap R) (φ' : Phi) (w' : World) (Wc : List Nat) : Prop where
  sim : Sim U φ h w
  win : WOk U φ h w ws
  lone : lone1 ws = true
  agr : ∀ b ∈ touched ws, h b = L[b]?
  fresh : ∀ b ∈ newIx L (backL ws L H), h b = none
  st : Stp U (phW U φ ws) (hpW ws) w φ' (fun b => H[b]?) w' Wc
  wr : ∀ k ∈ Wc, (∃ x, ws[k]? = some x ∧ x.2.m = 2) ∨ ws.length ≤ k
  keep : ∀ (k : Nat) x, ws[k]? = some x → x.2.m ≠ 2 → H[k]? = some x.2
  ok : backOk H 0 ws = true
  len : ws.length ≤ H.length
  own : ∀ (k : Nat) x, ws.length ≤ k → H[k]? = some x → x.m = 2

variable {φ φ' : Phi} {h : Hp R} {w w' : World} {ws : Wins R} {L H : Heap R} {Wc : List Nat}

theorem Came.inL (C : Came U φ h w ws L H φ' w' Wc) {k : Nat} {x : Src × Blk R} {b : Nat} (hk : ws[k]? = some x) (hb : x.1.blk = some b) : b < L.length ∧ ∃ blk, L[b]? = some blk ∧ h b = some blk ∧ blk.m ≠ 0 ∧ (x.2.m = 2 → blk.m = 2) := by
  obtain ⟨blk, h1, h2, h3⟩ := src_blk (C.win.src k x hk) hb
  have := C.agr b (touched_mem hk hb)
  rw [h1] at this
  exact ⟨(List.getElem?_eq_some_iff.1 this.symm).1, blk, this.symm, h1, h2, h3⟩

theorem hpB_in {b : Nat} (hb : b ∈ written ws ∨ b ∈ newIx L (backL ws L H)) : hpB h ws L H b = (backL ws L H)[b]? := by
  unfold hpB upd
  rw [if_pos (by simpa using hb)]
theorem hpB_out {b : Nat} (hb : ¬ (b ∈ written ws ∨ b ∈ newIx L (backL ws L H))) : hpB h ws L H b = h b := by
  unfold hpB upd
  rw [if_neg (by simpa using hb)]

/-- A block of the callee comes back. -/
theorem Came.hit (C : Came U φ h w ws L H φ' w' Wc) {b k : Nat} (hk : kOf ws L H b = some k) : ∃ blk G, H[k]? = some blk ∧ blk.m = 2 ∧ hpB h ws L H b = some ⟨renK ws L H blk.k, G, 2⟩ ∧
    ((h b = none ∧ G = blk.g ∧ b ∉ written ws) ∨ ∃ x b0, ws[k]? = some x ∧ x.2.m = 2 ∧ x.1.blk = some b ∧ h b = some b0 ∧ b0.m = 2 ∧ G = b0.g + (match blk.k with | .row _ => blk.g | .box _ => 0)) ∧ (b ∈ written ws ∨ b ∈ newIx L (backL ws L H)) := by
  unfold kOf at hk
  have hlen := backL_len ws L H
  split at hk
  · rename_i hbl
    obtain ⟨_, x, hx, hm, hb⟩ := findW_some hk
    rw [Nat.sub_zero] at hx
    obtain ⟨blk, h1, h2, _⟩ := backOk_get C.ok hx hm
    rw [Nat.zero_add] at h1
    obtain ⟨_, b0, hL, hhb, _, hb0⟩ := C.inL hx hb
    have hwr : b ∈ written ws := written_mem.2 ⟨k, x, hx, hm, hb⟩
    refine ⟨blk, b0.g + (match blk.k with | .row _ => blk.g | .box _ => 0), h1, h2, ?_, .inr ⟨x, b0, hx, hm, hb, hhb, hb0 hm, rfl⟩, .inl hwr⟩
    rw [hpB_in (.inl hwr)]
    unfold backL
    rw [List.append_assoc, List.getElem?_append_left (by rw [mapIx_len]; exact hbl), mapIx_get, hL, Nat.zero_add]
    simp only [Option.map_some, backB, hk, h1]
    obtain ⟨kk, g, m⟩ := blk
    cases kk <;> rfl
  · rename_i hbl
    split at hk
    · rename_i hb2
      simp at hk; subst hk
      have hlt : b - L.length + ws.length < H.length := by omega
      have hN : b ∈ newIx L (backL ws L H) := newIx_mem.2 ⟨by omega, by omega⟩
      have hnone := C.fresh b hN
      have hnw : b ∉ written ws := fun hw => by
        obtain ⟨k, x, hx, _, hb⟩ := written_mem.1 hw
        have := (C.inL hx hb).1
        omega
      refine ⟨_, _, List.getElem?_eq_getElem hlt, C.own _ _ (by omega) (List.getElem?_eq_getElem hlt), ?_, .inl ⟨hnone, rfl, hnw⟩, .inr hN⟩
      rw [hpB_in (.inr hN)]
      unfold backL
      rw [List.getElem?_append_left (by simp [mapIx_len]; omega), List.getElem?_append_right (by rw [mapIx_len]; omega), mapIx_len, List.getElem?_map, List.getElem?_drop]
      rw [show ws.length + (b - L.length) = b - L.length + ws.length by omega, List.getElem?_eq_getElem hlt]
      have := C.own _ _ (by omega) (List.getElem?_eq_getElem hlt)
      simp [this]
    · rename_i hb2
      have hmem := List.mem_of_getElem? hk
      have hlt := (List.getElem?_eq_some_iff.1 hk).1
      obtain ⟨_, x, hx, hm, hb⟩ := nilsW_get hmem
      rw [Nat.sub_zero] at hx
      obtain ⟨blk, h1, h2, h3, _⟩ := backOk_get C.ok hx hm
      rw [Nat.zero_add] at h1
      have hN : b ∈ newIx L (backL ws L H) := newIx_mem.2 ⟨by omega, by omega⟩
      have hnone := C.fresh b hN
      have hnw : b ∉ written ws := fun hw => by
        obtain ⟨k, x, hx, _, hb⟩ := written_mem.1 hw
        have := (C.inL hx hb).1
        omega
      refine ⟨blk, blk.g, h1, h2, ?_, .inl ⟨hnone, rfl, hnw⟩, .inr hN⟩
      rw [hpB_in (.inr hN)]
      unfold backL
      rw [List.getElem?_append_right (by simp [mapIx_len]; omega)]
      simp only [List.length_append, mapIx_len, List.length_map, List.length_drop]
      rw [List.getElem?_map, show b - (L.length + (H.length - ws.length)) = b - L.length - (H.length - ws.length) by omega, hk]
      simp only [Option.map_some, h1, Option.getD_some]
      obtain ⟨kk, g, m⟩ := blk
      simp only at h2 h3
      cases kk with
      | row r => simp [renK, h2]
      | box cs =>
        obtain ⟨b', _, _, e⟩ := h3.1 ⟨cs, rfl⟩
        rw [e] at hb
        simp [Src.blk] at hb
theorem Came.miss (C : Came U φ h w ws L H φ' w' Wc) {b : Nat} (hk : kOf ws L H b = none) : hpB h ws L H b = h b ∧ (∀ (k : Nat) x, ws[k]? = some x → x.2.m = 2 → x.1.blk ≠ some b) ∧ ¬ (b ∈ written ws ∨ b ∈ newIx L (backL ws L H)) := by
  have hlen := backL_len ws L H
  have h1 : ∀ (k : Nat) x, ws[k]? = some x → x.2.m = 2 → x.1.blk ≠ some b := by
    intro k x hx hm hb
    have hbl := (C.inL hx hb).1
    unfold kOf at hk
    rw [if_pos hbl] at hk
    exact findW_none hk k x hx hm hb
  have h2 : ¬ (b ∈ written ws ∨ b ∈ newIx L (backL ws L H)) := by
    rintro (h | h)
    · obtain ⟨k, x, hx, hm, hb⟩ := written_mem.1 h
      exact h1 k x hx hm hb
    · obtain ⟨h3, h4⟩ := newIx_mem.1 h
      unfold kOf at hk
      rw [if_neg (by omega)] at hk
      split at hk
      · simp at hk
      · rw [List.getElem?_eq_getElem (by omega)] at hk; simp at hk
  exact ⟨hpB_out h2, h1, h2⟩
theorem Came.inj (C : Came U φ h w ws L H φ' w' Wc) {b b' k : Nat} (hk : kOf ws L H b = some k) (hk' : kOf ws L H b' = some k) : b = b' := by
  have key : ∀ b, kOf ws L H b = some k → (b < L.length ∧ k < ws.length ∧ ∃ x, ws[k]? = some x ∧ x.1.blk = some b) ∨ (L.length ≤ b ∧ b < L.length + (H.length - ws.length) ∧ k = b - L.length + ws.length) ∨ (L.length + (H.length - ws.length) ≤ b ∧ k < ws.length ∧ (nilsW 0 ws)[b - L.length - (H.length - ws.length)]? = some k ∧ ∃ x, ws[k]? = some x ∧ x.1.blk = none) := by
    intro b hk
    unfold kOf at hk
    split at hk
    · rename_i h1
      obtain ⟨_, x, hx, _, hb⟩ := findW_some hk
      rw [Nat.sub_zero] at hx
      exact .inl ⟨h1, (List.getElem?_eq_some_iff.1 hx).1, x, hx, hb⟩
    · split at hk
      · simp at hk; exact .inr (.inl ⟨by omega, by omega, hk.symm⟩)
      · obtain ⟨_, x, hx, _, hb⟩ := nilsW_get (List.mem_of_getElem? hk)
        rw [Nat.sub_zero] at hx
        exact .inr (.inr ⟨by omega, (List.getElem?_eq_some_iff.1 hx).1, hk, x, hx, hb⟩)
  rcases key b hk with ⟨h1, h2, x, h3, h4⟩ | ⟨h1, h2, h3⟩ | ⟨h1, h2, h3, x, h4, h5⟩ <;> rcases key b' hk' with ⟨g1, g2, y, g3, g4⟩ | ⟨g1, g2, g3⟩ | ⟨g1, g2, g3, y, g4, g5⟩
  · rw [h3] at g3; simp at g3; subst g3; rw [h4] at g4; simpa using g4
  · omega
  · rw [h3] at g4; simp at g4; subst g4; rw [h4] at g5; simp at g5
  · omega
  · omega
  · omega
  · rw [h4] at g3; simp at g3; subst g3; rw [h5] at g4; simp at g4
  · omega
  · have e : b - L.length - (H.length - ws.length) = b' - L.length - (H.length - ws.length) := by
      obtain ⟨p1, p2⟩ := List.getElem?_eq_some_iff.1 h3
      obtain ⟨q1, q2⟩ := List.getElem?_eq_some_iff.1 g3
      have hp := List.pairwise_iff_getElem.1 (nilsW_nodup (ws := ws) (k0 := 0))
      rcases Nat.lt_trichotomy (b - L.length - (H.length - ws.length)) (b' - L.length - (H.length - ws.length)) with hlt | heq | hlt
      · exact absurd (p2.trans q2.symm) (hp _ _ p1 q1 hlt)
      · exact heq
      · exact absurd (q2.trans p2.symm) (hp _ _ q1 p1 hlt)
    omega
end
end Go.Eng
