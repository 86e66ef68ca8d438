/-
What is proved: 'midrangetop.TopTextsRefused' returns true for every input, and its arguments read behind the call as they read before (the tied card of the statement 'TopTextsRefused').
  Its conditions: the row's own: the ten listed package-level variables start as the program's text lays them (the card ties them to that text); nothing else is asked.
  Part 5 of 15.
-/
import Derived.Test.YtgcnbicoajjlaaaGreatDoorA4
set_option linter.unusedSectionVars false
set_option linter.unusedVariables false
set_option linter.unusedSimpArgs false
section
set_option linter.unusedVariables false
set_option linter.unusedSimpArgs false
set_option linter.unusedSectionVars false
namespace Go.Eng
open Go
def dstsIn (N : Nat) : Code → Bool
  | .region _ ops _ => ops.toList.all fun o => match o.dst with | some d => Nat.blt d N | none => true
  | .seq a b => dstsIn N a && dstsIn N b
  | .cond c a b => (match c with | .tmp i => Nat.blt i N | _ => true) && dstsIn N a && dstsIn N b
  | .block _ a => dstsIn N a
  | .loop a => dstsIn N a
  | _ => true
def PostOk (X : Ctx) (Qa : Post) (Q : Exit → Act → World → Prop) : Prop := ∀ e s H a w st ρ, Qa e s H → Rel X ⟨s, H⟩ a w st ρ → match e with | .normal => Q .normal a w | .exit i => Q (.exit i) a w | .ret => Q .ret a w
theorem least_ex {I : Nat → Prop} : ∀ n, I n → ∃ m, I m ∧ ∀ k, I k → m ≤ k := by
  intro n
  induction n using Nat.strongRecOn with
  | _ n ih =>
    intro h
    rcases Classical.em (∃ k, k < n ∧ I k) with ⟨k, hk, h'⟩ | hno
    · exact ih k hk h'
    · refine ⟨n, h, fun k hk => ?_⟩
      rcases Nat.lt_or_ge k n with hlt | hge
      · exact absurd ⟨k, hlt, hk⟩ hno
      · exact hge
open Classical in
noncomputable def leastM (I : Nat → Prop) : Nat := if h : ∃ m, I m ∧ ∀ k, I k → m ≤ k then Classical.choose h else 0
theorem leastM_both {I : Nat → Prop} (h : ∃ n, I n) : I (leastM I) ∧ ∀ k, I k → leastM I ≤ k := by
  obtain ⟨n, hn⟩ := h
  have h := least_ex n hn
  unfold leastM
  rw [dif_pos h]
  exact Classical.choose_spec h
theorem leastM_spec {I : Nat → Prop} (h : ∃ n, I n) : I (leastM I) := (leastM_both h).1
theorem leastM_le {I : Nat → Prop} {n : Nat} (h : I n) : leastM I ≤ n := (leastM_both ⟨n, h⟩).2 n h
open Classical in
noncomputable def measP (I : Nat → Prop) (N : Nat) : Nat := if ∃ n, I n then leastM I else N
theorem measP_pos {I : Nat → Prop} {N : Nat} (h : ∃ n, I n) : measP I N = leastM I := if_pos h
theorem measP_neg {I : Nat → Prop} {N : Nat} (h : ¬ ∃ n, I n) : measP I N = N := if_neg h
theorem blt_lt {a b : Nat} (h : Nat.blt a b = true) : a < b := by simpa [Nat.blt_eq] using h
theorem Rel.test {X : Ctx} {s : Nat → AV} {H : Nat → Option Blk} {a : Act} {w : World} {st : Stab} {ρ : Nat → Loc} (h : Rel X ⟨s, H⟩ a w st ρ) {i : Nat} {t : Bool} (hi : s i = .prop t) : Rel X ⟨upd s i (.bool t), H⟩ a w st ρ :=
  { slots := fun j => by
      by_cases hj : j = i
      · subst hj
        have := h.slots j
        rw [show (⟨s, H⟩ : St).slot j = s j from rfl, hi] at this
        show R3 w st ρ (upd s j (.bool t) j) _
        rw [upd_same, R3_prop this]; exact R_bool ..
      · show R3 w st ρ (upd s i (.bool t) j) _
        rw [upd_other _ _ hj]; exact h.slots j
    size := h.size, defers := h.defers, ev := h.ev, sta := h.sta, sub := h.sub, new := h.new, heap := h.heap, mine := h.mine, apart := h.apart
    kin := fun j k hk => by
      have hk' : k ∈ keysT (upd s i (.bool t) j) := hk
      by_cases hj : j = i
      · subst hj; rw [upd_same] at hk'; cases hk'
      · rw [upd_other _ _ hj] at hk'; exact h.kin j k hk'
    kinH := h.kinH, glob := h.glob }
def Snd (X : Ctx) (INV : List (Nat × Inv)) (c : Code) : Prop := ∀ (Qa : Post) (Q : Exit → Act → World → Prop), dstsIn X.N c = true → PostOk X Qa Q → ∀ s H a w st ρ, Rel X ⟨s, H⟩ a w st ρ → AWP X.E INV c Qa s H → c.wp X.E.P Q a w
theorem awp_both {X : Ctx} (hA : AllOk X.E) (hm : X.E.P.follows .mixedOrders = true) {INV : List (Nat × Inv)} : ∀ (c : Code), Snd X INV c ∧ ∀ y, c = .loop y → Snd X INV y := by
  intro c
  induction c with
  | skip => refine ⟨?_, fun _ h => by cases h⟩; intro Qa Q _ hQ s H a w st ρ h hc; exact wp_skip (hQ .normal s H a w st ρ hc h)
  | region id ops draw =>
    refine ⟨?_, fun _ h => by cases h⟩
    intro Qa Q hd hQ s H a w st ρ h hc
    simp only [AWP, cond_eq_ite] at hc
    split at hc
    · rename_i hok
      simp only [Bool.and_eq_true] at hok
      refine region_wp hA hm (fun o ho d hod => ?_) h hok.1 hok.2 (Qa := fun s H => Qa .normal s H) ?_ (fun s' H' a' w' st' ρ' hq h' => hQ .normal s' H' a' w' st' ρ' hq h')
      · have := (List.all_eq_true.1 hd) o ho
        rw [hod] at this
        exact blt_lt this
      · simpa only [cond_eq_ite] using hc
    · exact hc.elim
  | seq x y ihx ihy =>
    refine ⟨?_, fun _ h => by cases h⟩
    intro Qa Q hd hQ s H a w st ρ h hc
    simp only [dstsIn, Bool.and_eq_true] at hd
    refine wp_seq (ihx.1 _ _ hd.1 ?_ s H a w st ρ h hc)
    intro e s H a w st ρ hq h
    cases e with
    | normal => exact ihy.1 Qa Q hd.2 hQ s H a w st ρ h hq
    | exit i => exact hQ (.exit i) s H a w st ρ hq h
    | ret => exact hQ .ret s H a w st ρ hq h
  | cond c x y ihx ihy =>
    refine ⟨?_, fun _ h => by cases h⟩
    intro Qa Q hd hQ s H a w st ρ h hc
    simp only [dstsIn, Bool.and_eq_true] at hd
    have hv := opnd_rel h c
    simp only [AWP] at hc
    split at hc
    · rename_i hb
      rw [show opnd X.E (⟨s, H⟩ : St).slot c = opnd X.E s c from rfl, hb] at hv
      exact wp_cond_true (R3_bool hv) (ihx.1 Qa Q hd.1.2 hQ s H a w st ρ h hc)
    · rename_i hb
      rw [show opnd X.E (⟨s, H⟩ : St).slot c = opnd X.E s c from rfl, hb] at hv
      exact wp_cond_false (R3_bool hv) (ihy.1 Qa Q hd.2 hQ s H a w st ρ h hc)
    · rename_i t hb
      rw [show opnd X.E (⟨s, H⟩ : St).slot c = opnd X.E s c from rfl, hb] at hv
      split at hc
      · rename_i i
        have hi : s i = .prop t := hb
        have h' := h.test hi
        cases t with
        | true => exact wp_cond_true (R3_prop hv) (ihx.1 Qa Q hd.1.2 hQ _ H a w st ρ h' (hc.1 rfl))
        | false => exact wp_cond_false (R3_prop hv) (ihy.1 Qa Q hd.2 hQ _ H a w st ρ h' (hc.2 rfl))
      · exact hc.elim
    · exact hc.elim
  | block id x ih =>
    refine ⟨?_, fun _ h => by cases h⟩
    intro Qa Q hd hQ s H a w st ρ h hc
    have gen : ∀ {y : Code}, (∀ (Qa : Post) (Q : Exit → Act → World → Prop), dstsIn X.N y = true → PostOk X Qa Q → ∀ s H a w st ρ, Rel X ⟨s, H⟩ a w st ρ → AWP X.E INV y Qa s H → y.wp X.E.P Q a w) → dstsIn X.N y = true →
        AWP X.E INV y (fun e s H => match e with | .exit i => bif Nat.beq i id then Qa .normal s H else Qa (.exit i) s H | .normal => Qa .normal s H | .ret => Qa .ret s H) s H → (Code.block id y).wp X.E.P Q a w := fun {y} ih hd hc => by
      refine wp_block (ih _ _ hd ?_ s H a w st ρ h hc)
      intro e s H a w st ρ hq h
      cases e with
      | normal => exact hQ .normal s H a w st ρ hq h
      | ret => exact hQ .ret s H a w st ρ hq h
      | exit i =>
        simp only [cond_eq_ite] at hq
        simp only [Exit.inBlock]
        split at hq
        · rename_i hi; rw [if_pos (beq_true hi)]; exact hQ .normal s H a w st ρ hq h
        · rename_i hi; rw [if_neg (by simpa using hi)]; exact hQ (.exit i) s H a w st ρ hq h
    cases x with
    | loop y =>
      simp only [AWP] at hc
      split at hc
      · split at hc
        · exact hc.elim
        · rename_i L hlk
          obtain ⟨i0, h0, hround⟩ := hc
          have ihy := ih.2 y rfl
          refine wp_block (wp_loop (fun a w => ∃ n, ∃ (i : L.ι) (st : Stab) (ρ : Nat → Loc), L.μ i / 4294967296 = L.μ i0 / 4294967296 ∧ L.μ i = n ∧ Rel X ⟨slotsOfL (L.st i), blksOfL (L.hp i)⟩ a w st ρ)
            (fun a w => leastM fun n => ∃ (i : L.ι) (st : Stab) (ρ : Nat → Loc), L.μ i / 4294967296 = L.μ i0 / 4294967296 ∧ L.μ i = n ∧ Rel X ⟨slotsOfL (L.st i), blksOfL (L.hp i)⟩ a w st ρ) ?_ ?_)
          · obtain ⟨ρ', h'⟩ := told_rel h0 h
            exact ⟨_, i0, st, ρ', rfl, rfl, h'⟩
          · intro a w hI
            obtain ⟨i, st, ρ, hkey, hmu, hr⟩ := leastM_spec hI
            refine ihy _ _ hd ?_ _ _ a w st ρ hr (hround i hkey)
            intro e s' H' a' w' st' ρ' hq h'
            cases e with
            | normal =>
              obtain ⟨j, hkj, hlt, ht⟩ := hq
              obtain ⟨ρ2, h2⟩ := told_rel ht h'
              refine ⟨⟨_, j, st', ρ2, hkj, rfl, h2⟩, ?_⟩
              rw [← hmu]
              exact Nat.lt_of_le_of_lt (leastM_le ⟨j, st', ρ2, hkj, rfl, h2⟩) hlt
            | ret => exact hQ .ret s' H' a' w' st' ρ' hq h'
            | exit i =>
              simp only [cond_eq_ite] at hq
              simp only [Exit.then, Exit.inBlock]
              split at hq
              · rename_i hi; rw [if_pos (beq_true hi)]; exact hQ .normal s' H' a' w' st' ρ' hq h'
              · rename_i hi; rw [if_neg (by simpa using hi)]; exact hQ (.exit i) s' H' a' w' st' ρ' hq h'
      · rename_i L hlk
        obtain ⟨hin, hround⟩ := hc
        have ihy := ih.2 y rfl
        split at hin
        case h_2 L2 hlk2 =>
          obtain ⟨i2, h0⟩ := hin
          let P : Act → World → Nat → Prop := fun a w n => ∃ (i : L.ι) (st : Stab) (ρ : Nat → Loc), L.μ i = n ∧ Rel X ⟨slotsOfL (L.st i), blksOfL (L.hp i)⟩ a w st ρ
          refine wp_block (wp_loop (fun a' w' => (∃ n, P a' w' n) ∨ (a' = a ∧ w' = w)) (fun a' w' => measP (P a' w') (L2.μ i2)) (.inr ⟨rfl, rfl⟩) ?_)
          intro a1 w1 hI
          by_cases hP : ∃ n, P a1 w1 n
          · rw [measP_pos hP]
            obtain ⟨i, st, ρ, hmu, hr⟩ := leastM_spec hP
            refine ihy _ _ hd ?_ _ _ a1 w1 st ρ hr (hround i)
            intro e s' H' a' w' st' ρ' hq h'
            cases e with
            | normal =>
              obtain ⟨j, hlt, ht⟩ := hq
              obtain ⟨ρ2, h2⟩ := told_rel ht h'
              have hn : P a' w' (L.μ j) := ⟨j, st', ρ2, rfl, h2⟩
              refine ⟨.inl ⟨_, hn⟩, ?_⟩
              rw [measP_pos ⟨_, hn⟩, ← hmu]
              exact Nat.lt_of_le_of_lt (leastM_le hn) hlt
            | ret => exact hQ .ret s' H' a' w' st' ρ' hq h'
            | exit i =>
              simp only [cond_eq_ite] at hq
              simp only [Exit.then, Exit.inBlock]
              split at hq
              · rename_i hi; rw [if_pos (beq_true hi)]; exact hQ .normal s' H' a' w' st' ρ' hq h'
              · rename_i hi; rw [if_neg (by simpa using hi)]; exact hQ (.exit i) s' H' a' w' st' ρ' hq h'
          · rw [measP_neg hP]
            obtain ⟨rfl, rfl⟩ := hI.resolve_left hP
            refine ihy _ _ hd ?_ _ _ a1 w1 st ρ h h0
            intro e s' H' a' w' st' ρ' hq h'
            cases e with
            | normal =>
              obtain ⟨j, hlt, ht⟩ := hq
              obtain ⟨ρ2, h2⟩ := told_rel ht h'
              have hn : P a' w' (L.μ j) := ⟨j, st', ρ2, rfl, h2⟩
              refine ⟨.inl ⟨_, hn⟩, ?_⟩
              rw [measP_pos ⟨_, hn⟩]
              exact Nat.lt_of_le_of_lt (leastM_le hn) hlt
            | ret => exact hQ .ret s' H' a' w' st' ρ' hq h'
            | exit i =>
              simp only [cond_eq_ite] at hq
              simp only [Exit.then, Exit.inBlock]
              split at hq
              · rename_i hi; rw [if_pos (beq_true hi)]; exact hQ .normal s' H' a' w' st' ρ' hq h'
              · rename_i hi; rw [if_neg (by simpa using hi)]; exact hQ (.exit i) s' H' a' w' st' ρ' hq h'
        obtain ⟨i0, h0⟩ := hin
        refine wp_block (wp_loop (fun a w => ∃ n, ∃ (i : L.ι) (st : Stab) (ρ : Nat → Loc), L.μ i = n ∧ Rel X ⟨slotsOfL (L.st i), blksOfL (L.hp i)⟩ a w st ρ)
          (fun a w => leastM fun n => ∃ (i : L.ι) (st : Stab) (ρ : Nat → Loc), L.μ i = n ∧ Rel X ⟨slotsOfL (L.st i), blksOfL (L.hp i)⟩ a w st ρ) ?_ ?_)
        · obtain ⟨ρ', h'⟩ := told_rel h0 h
          exact ⟨_, i0, st, ρ', rfl, h'⟩
        · intro a w hI
          obtain ⟨i, st, ρ, hmu, hr⟩ := leastM_spec hI
          refine ihy _ _ hd ?_ _ _ a w st ρ hr (hround i)
          intro e s' H' a' w' st' ρ' hq h'
          cases e with
          | normal =>
            obtain ⟨j, hlt, ht⟩ := hq
            obtain ⟨ρ2, h2⟩ := told_rel ht h'
            refine ⟨⟨_, j, st', ρ2, rfl, h2⟩, ?_⟩
            rw [← hmu]
            exact Nat.lt_of_le_of_lt (leastM_le ⟨j, st', ρ2, rfl, h2⟩) hlt
          | ret => exact hQ .ret s' H' a' w' st' ρ' hq h'
          | exit i =>
            simp only [cond_eq_ite] at hq
            simp only [Exit.then, Exit.inBlock]
            split at hq
            · rename_i hi; rw [if_pos (beq_true hi)]; exact hQ .normal s' H' a' w' st' ρ' hq h'
            · rename_i hi; rw [if_neg (by simpa using hi)]; exact hQ (.exit i) s' H' a' w' st' ρ' hq h'
    | _ => exact gen ih.1 hd hc
  | exit id => refine ⟨?_, fun _ h => by cases h⟩; intro Qa Q _ hQ s H a w st ρ h hc; exact wp_exit (hQ (.exit id) s H a w st ρ hc h)
  | ret => refine ⟨?_, fun _ h => by cases h⟩; intro Qa Q _ hQ s H a w st ρ h hc; exact wp_ret (hQ .ret s H a w st ρ hc h)
  | loop y ih => exact ⟨fun Qa Q _ hQ s H a w st ρ h hc => hc.elim, fun y' h => by cases h; exact ih.1⟩
  | _ => exact ⟨fun Qa Q _ hQ s H a w st ρ h hc => hc.elim, fun _ h => by cases h⟩
theorem awp_sound {X : Ctx} (hA : AllOk X.E) (hm : X.E.P.follows .mixedOrders = true) {INV : List (Nat × Inv)} (c : Code) : Snd X INV c := (awp_both hA hm c).1
end Go.Eng
end
section
set_option linter.unusedVariables false
set_option linter.unusedSimpArgs false
set_option linter.unusedSectionVars false
namespace Go.Eng
open Go
def resOne (tmps : Array Value) : ResultVar → Sem Value
  | .tmp t => pure (tmps.getD t undef)
  | .cell a t => do loadVar t (← asAddr (tmps.getD a undef))
theorem mapM_run {f : ResultVar → Sem Value} {P : Program} {w : World} {l : List ResultVar} {vals : List Value} (h : All2 (fun r v => (f r).run P w = .ok v w) l vals) : (l.mapM f).run P w = .ok vals w := by
  induction h with
  | nil => simp
  | cons h _ ih => simp [List.mapM_cons, h, ih]
theorem results_run {fn : Func} {tmps : Array Value} {P : Program} {w : World} {vals : List Value} (h : All2 (fun r v => (resOne tmps r).run P w = .ok v w) fn.results.toList vals) :
    (results fn tmps).run P w = .ok (if vals.length = 1 then vals.getD 0 undef else .tuple vals.toArray) w := by
  have e : results fn tmps = (do
      let vs ← fn.results.mapM (resOne tmps)
      pure (if h : vs.size = 1 then vs[0] else .tuple vs)) := by
    unfold results
    congr 1
  rw [e]
  have hm : (fn.results.mapM (resOne tmps)).run P w = .ok vals.toArray w := by
    rw [show fn.results = fn.results.toList.toArray by simp, List.mapM_toArray]
    simp [mapM_run h]
  rw [Sem.run_bind, hm]
  simp only [Result.andThen_ok, Sem.run_pure]
  congr 1
  by_cases hl : vals.length = 1
  · obtain ⟨v, rfl⟩ := List.length_eq_one_iff.1 hl
    rfl
  · rw [dif_neg (by simpa using hl), if_neg hl]
section
variable {X : Ctx} {s : Nat → AV} {H : Nat → Option Blk} {a : Act} {w : World} {st : Stab} {ρ : Nat → Loc}
abbrev stA (st : Stab) (H : Nat → Option Blk) (ρ : Nat → Loc) : Stab := stF st H ρ (fun _ => true)
theorem R1_R3 {v : AV} {val : Value} (h : R1 w st ρ v val) : R3 w st ρ v val := by
  cases v <;> first | exact h | exact h.elim
theorem view3_rel (h : Rel X ⟨s, H⟩ a w st ρ) {v : AV} {val : Value} (hv : R3 w st ρ v val) : R3 w (stA st H ρ) ρ (view H v) val := by
  cases v
  case agg l =>
    obtain ⟨cs, e, h1, h2⟩ := hv
    exact ⟨cs, e, All2.map_left (h1.mono fun a b hr => view1_rel (S := ⟨s, H⟩) h hr fun _ _ => rfl), h2⟩
  case tup l => exact R3.mono (fun _ _ h => .inl h) (Keep.refl _ _) hv
  case clo f l => exact R3.mono (fun _ _ h => .inl h) (Keep.refl _ _) hv
  case ifc t v => exact R3.mono (fun _ _ h => .inl h) (Keep.refl _ _) hv
  all_goals (simp only [R3, R2] at hv; simp only [view]; exact R1_R3 (view1_rel (S := ⟨s, H⟩) (F := fun _ => true) h hv fun _ _ => rfl))
theorem resV_run (hE : EnvOk X.E) (h : Rel X ⟨s, H⟩ a w st ρ) {r : ResultVar} {v : AV} (hv : resV X.E s H r = some v) : ∃ val, (resOne a.tmps r).run X.E.P w = .ok val w ∧ R3 w (stA st H ρ) ρ v val := by
  cases r with
  | tmp t =>
    simp only [resV, Option.some.injEq] at hv
    subst hv
    exact ⟨_, rfl, view3_rel h (h.slots t)⟩
  | cell t ty =>
    simp only [resV] at hv
    split at hv
    · rename_i k o hs
      have hx := h.slots t
      rw [show (⟨s, H⟩ : St).slot t = s t from rfl, hs] at hx
      obtain ⟨b, hb, hp⟩ := R3_ptr hx
      split at hv
      · rename_i cs fz hH
        simp only [cond_eq_ite] at hv
        split at hv
        · rename_i hle
          have hle := Nat.le_of_ble_eq_true hle
          have hB := h.heap k _ hH
          rw [hb] at hB
          obtain ⟨arr, te, h1, h2, h3, h4⟩ := hB
          have hl := h2.length
          have hrel : All2 (R1 w st ρ) (rdCells cs o (X.E.sz ty)) ((arr.toList.drop o).take (X.E.sz ty)) := (h2.drop o).take _
          have key : ∀ u, (ofCells (X.E.ag ty) (rdCells cs o (X.E.sz ty))).run = some u → ∃ val, (resOne a.tmps (.cell t ty)).run X.E.P w = .ok val w ∧ R3 w st ρ u val := by
            intro u hu
            obtain ⟨val, e1, e2⟩ := load_sound hE (range_block h1 o (X.E.sz ty)) hrel (fun y hy => h3 y (List.mem_of_mem_drop (List.mem_of_mem_take hy))) (by simp at hl ⊢; omega) hu
            refine ⟨val, ?_, e2⟩
            rw [← e1]
            simp [resOne, hp, Instr.loadAt, Instr.sureAddr, asAddr]
          split at hv
          · rename_i hag
            cases hv
            obtain ⟨val, e1, e2⟩ := key _ (by rw [hag]; rfl)
            exact ⟨val, e1, view3_rel h e2⟩
          · rename_i c l hag hc
            cases hv
            obtain ⟨val, e1, e2⟩ := key _ (by rw [hag, hc]; rfl)
            refine ⟨val, e1, ?_⟩
            have e3 : R1 w st ρ c val := by
              rw [hc] at hrel
              generalize (arr.toList.drop o).take (X.E.sz ty) = ys at hrel
              cases hrel
              rename_i h5 _
              cases c <;> first | exact e2 | (exact h5.elim)
            exact R1_R3 (view1_rel (S := ⟨s, H⟩) h e3 fun _ _ => rfl)
          · cases hv
        · cases hv
      · cases hv
    · cases hv
theorem resAll_run (hE : EnvOk X.E) (h : Rel X ⟨s, H⟩ a w st ρ) : ∀ {rs : List ResultVar} {l : List AV}, resAll X.E s H rs = some l →
    ∃ vals, All2 (fun r v => (resOne a.tmps r).run X.E.P w = .ok v w) rs vals ∧ All2 (R3 w (stA st H ρ) ρ) l vals
  | [], l, hl => by cases hl; exact ⟨[], .nil, .nil⟩
  | r :: rs, l, hl => by
    simp only [resAll] at hl
    split at hl
    · rename_i v l' hv hl'
      cases hl
      obtain ⟨val, e1, e2⟩ := resV_run hE h hv
      obtain ⟨vals, e3, e4⟩ := resAll_run hE h hl'
      exact ⟨val :: vals, .cons e1 e3, .cons e2 e4⟩
    · cases hl
end
theorem pers_told {v : AV} (hp : persA v = true) (hr : rdOk v = true) : valTold [] v = true ∧ ∀ v', rowsA v v' = [] := by
  have k1 : ∀ {v : AV}, persA1 v = true → keyTold0 [] v = true := fun {v} h => by cases v <;> first | rfl | cases h
  have k2 : ∀ {v : AV}, persA1 v = true → keyTold [] v = true ∧ ∀ v', rowsV v v' = [] := fun {v} h => told0 (k1 h)
  have kl : ∀ {l : List AV}, l.all persA1 = true → l.all (keyTold0 []) = true := fun {l} h => List.all_eq_true.2 fun x hx => k1 (List.all_eq_true.1 h x hx)
  cases v
  case agg l =>
    obtain ⟨t1, t2⟩ := told0L (kl hp)
    refine ⟨t1, fun v' => ?_⟩
    cases v' <;> first | rfl | exact t2 _
  case clo f l => exact ⟨kl hp, fun v' => by cases v' <;> rfl⟩
  case ifc t v => exact ⟨k1 hp, fun v' => by cases v' <;> rfl⟩
  case rd l => exact ⟨hr, fun v' => by cases v' <;> rfl⟩
  case row k => cases hp
  all_goals (simp only [persA] at hp; exact ⟨(k2 hp).1, fun v' => by cases v' <;> first | rfl | exact (k2 hp).2 _⟩)
theorem eqv_up {w : World} {st : Stab} {ρ ρ' : Nat → Loc} {v v' : AV} {x : Value} (hp : persA v = true) (hr : rdOk v = true) (he : eqv v v') (h : R3 w st ρ v' x) : R3 w st ρ' v x := by
  obtain ⟨t1, t2⟩ := pers_told hp hr
  exact eqvR3 (B := []) (ρ := ρ) (ps := []) ⟨fun _ _ _ h => (by cases h), fun _ _ h => (by cases h), fun _ h => (by cases h)⟩ t1 he (fun p hp => by rw [t2] at hp; cases hp) h
theorem pers_T {v : AV} (hp : pers v = true) : persT v = true := by
  have k1 : ∀ {v : AV}, pers1 v = true → persA1 v = true := fun {v} h => by cases v <;> first | exact h | rfl
  have kl : ∀ {l : List AV}, l.all pers1 = true → l.all persA1 = true := fun {l} h => List.all_eq_true.2 fun x hx => k1 (List.all_eq_true.1 h x hx)
  cases v <;> first | exact hp | cases hp | exact kl hp | exact k1 hp
theorem R3_R2 {w : World} {st : Stab} {ρ : Nat → Loc} {v : AV} {x : Value} (hp : persA v = true) (h : R3 w st ρ v x) : R2 w st ρ v x := by
  cases v <;> first | exact h | cases hp
theorem eqvT_up {w : World} {st : Stab} {ρ ρ' : Nat → Loc} : ∀ {l l' : List AV} {xs : List Value}, l.all persA = true → l.all rdOk = true → eqvT l l' → All2 (R3 w st ρ) l' xs → All2 (R2 w st ρ') l xs
  | [], [], _, _, _, _, h => by cases h; exact .nil
  | [v], [v'], _, hp, hr, he, h => by
    cases h with
    | cons h t =>
      cases t
      simp only [List.all_cons, List.all_nil, Bool.and_true] at hp hr
      exact .cons (R3_R2 hp (eqv_up hp hr he h)) .nil
  | v :: u :: l, v' :: u' :: l', _, hp, hr, he, h => by
    cases h with
    | cons h t =>
      simp only [List.all_cons, Bool.and_eq_true] at hp hr
      exact .cons (R3_R2 hp.1 (eqv_up hp.1 hr.1 he.1 h)) (eqvT_up (by simp [hp.2]) (by simp [hr.2]) he.2 t)
  | [], _ :: _, _, _, _, he, _ => he.elim
  | _ :: _, [], _, _, _, he, _ => by cases ‹List AV› <;> exact he.elim
  | [_], _ :: _ :: _, _, _, _, he, _ => (show False from he.2).elim
  | _ :: u :: l, [_], _, _, _, he, _ => by
    have h2 := he.2
    cases l <;> exact h2.elim
theorem eqvR_up {w : World} {st : Stab} {ρ ρ' : Nat → Loc} {v v' : AV} {x : Value} (hp : persT v = true) (hr : rdOkT v = true) (he : eqvR v v') (h : R3 w st ρ v' x) : R3 w st ρ' v x := by
  cases v
  case tup l =>
    cases v' <;> first | exact he.elim | skip
    obtain ⟨cs, e, h1⟩ := h
    exact ⟨cs, e, eqvT_up hp hr he (h1.mono fun a b hab => by cases a <;> first | exact hab | exact hab.elim)⟩
  all_goals exact eqv_up hp hr (by simpa only [eqvR] using he) h
theorem dstsIn_mono {N M : Nat} (hNM : N ≤ M) : ∀ {c : Code}, dstsIn N c = true → dstsIn M c = true := by
  have hlt : ∀ {d : Nat}, Nat.blt d N = true → Nat.blt d M = true := fun {d} h => by
    have := blt_lt h
    rw [Nat.blt_eq]; omega
  intro c
  induction c with
  | region id ops draw =>
    intro h
    refine List.all_eq_true.2 fun o ho => ?_
    have := List.all_eq_true.1 h o ho
    cases hod : o.dst with
    | none => rfl
    | some d => rw [hod] at this; exact hlt this
  | seq a b iha ihb => intro h; simp only [dstsIn, Bool.and_eq_true] at h ⊢; exact ⟨iha h.1, ihb h.2⟩
  | cond c a b iha ihb =>
    intro h
    simp only [dstsIn, Bool.and_eq_true] at h ⊢
    refine ⟨⟨?_, iha h.1.2⟩, ihb h.2⟩
    revert h
    cases c <;> first | exact fun _ => rfl | exact fun h => hlt h.1.1
  | block id a ih => exact ih
  | loop a ih => exact ih
  | _ => intro _; rfl
theorem rel_start {E : Env} {as : List AV} {vals : List Value} {w : World} {st : Stab} (nt : Nat) (hp : as.all pers = true) (hsta : Sta w st) (hg : GlobOk E.G w st) (hargs : All2 (R2 w st noρ) as vals) :
    Rel ⟨E, (vals.toArray ++ Array.replicate (nt - vals.toArray.size) undef).size, fun _ => False, w, st⟩ ⟨argSlots as, noH⟩ { tmps := vals.toArray ++ Array.replicate (nt - vals.toArray.size) undef, defers := [] } w st noρ where
  slots := fun t => by
    show R3 w st noρ (as.getD t .undef) _
    by_cases ht : t < as.length
    · obtain ⟨v, hv, hr⟩ := hargs.get (List.getElem?_eq_getElem ht)
      have hl := hargs.length
      rw [List.getD_eq_getElem?_getD, List.getElem?_eq_getElem ht]
      have : (vals.toArray ++ Array.replicate (nt - vals.toArray.size) undef).getD t undef = v := by
        rw [Array.getD_eq_getD_getElem?, Array.getElem?_append_left (by simp; omega)]
        simp [hv]
      rw [this]
      simp only [Option.getD_some]
      generalize as[t] = y at hr
      cases y <;> first | exact hr | exact hr.elim
    · have hl := hargs.length
      rw [List.getD_eq_getElem?_getD, List.getElem?_eq_none (by omega)]
      show (vals.toArray ++ Array.replicate (nt - vals.toArray.size) undef).getD t undef = undef
      rw [Array.getD_eq_getD_getElem?, Array.getElem?_append_right (by simp; omega)]
      rw [Array.getElem?_replicate]
      split <;> rfl
  size := rfl
  defers := rfl
  ev := Ev.refl _ _
  sta := hsta
  sub := fun _ _ h => h
  new := fun _ _ _ _ h => h
  heap := fun k b h => by cases h
  mine := fun k x h => by cases h
  apart := fun k k' x h => by cases h
  kin := fun t k hk => by
    exfalso
    have hk' : k ∈ keysT (as.getD t .undef) := hk
    have : keysT (as.getD t .undef) = [] := by
      by_cases ht : t < as.length
      · have hq := List.all_eq_true.1 hp _ (List.getElem_mem ht)
        rw [List.getD_eq_getElem?_getD, List.getElem?_eq_getElem ht]
        simp only [Option.getD_some]
        exact keysT_pers (pers_T hq)
      · rw [List.getD_eq_getElem?_getD, List.getElem?_eq_none (by omega)]; rfl
    rw [this] at hk'
    cases hk'
  kinH := fun k cs fz h => by cases h
  glob := hg
section
variable {E : Env} {N : Nat} {w : World} {st : Stab} {s : Nat → AV} {H : Nat → Option Blk} {a : Act} {w' : World} {st' : Stab} {ρ : Nat → Loc} {fn : Func}
def Gone (w : World) (st : Stab) (r : AV) (u : Value) (w' : World) : Prop := ∃ st2, Ev (fun _ => False) w w' ∧ (∀ b o, st b o → st2 b o) ∧ (∀ b o, b < w.heap.size → st2 b o → st b o) ∧ Sta w' st2 ∧ ResOk w w' st2 r u
theorem end_fresh (hrel : Rel ⟨E, N, fun _ => False, w, st⟩ ⟨s, H⟩ a w' st' ρ) {e sz : Nat} {els : List (List AV)} (he : endF e sz els s H fn.results.toList) :
    ∃ v, (results fn a.tmps).run E.P w' = .ok v w' ∧ Gone w st (.fresh e sz els) v w' := by
  unfold endF at he
  split at he
  · rename_i t hrs
    have hres : (results fn a.tmps).run E.P w' = .ok (a.tmps.getD t undef) w' := by
      rw [results_run (vals := [a.tmps.getD t undef]) (by rw [hrs]; exact .cons rfl .nil)]; rfl
    have hs := hrel.slots t
    refine ⟨_, hres, st', hrel.ev, hrel.sub, fun b o hb ho => hrel.new b o hb (fun h => h) ho, hrel.sta, ?_⟩
    split at he
    · rename_i k hk
      rw [show (⟨s, H⟩ : St).slot t = s t from rfl, hk] at hs
      obtain ⟨a1, n1, c1, hvv, hloc⟩ := hs
      split at he
      · rename_i e' sz' els' hH
        simp only [cond_eq_ite] at he
        split at he
        · rename_i hc
          simp only [Bool.and_eq_true] at hc
          obtain rfl := beq_true hc.1
          obtain rfl := beq_true hc.2
          subst he
          have hB := hrel.heap k _ hH
          rw [hloc] at hB
          obtain ⟨vs, o1, o2, o3, o4⟩ := hB
          refine ⟨vs, o1, o2, o3, fun g hg => ⟨?_, fun o ho => ?_⟩⟩
          · rcases hrel.mine k g (by rw [show (⟨s, H⟩ : St).H k = H k from rfl, hH, hloc]; exact hg) with h1 | h1
            · exact h1
            · exact h1.elim
          · have := (o4 g hg o ho).1
            cases this
        · exact he.elim
      · exact he.elim
    · rename_i hk
      subst he
      rw [show (⟨s, H⟩ : St).slot t = s t from rfl, hk] at hs
      generalize a.tmps.getD t undef = v at hs
      cases (show PV w' st' .nilS v from hs)
      exact ⟨[], World.ownsRow_nil .., .nil, by simp, fun g hg => by cases hg⟩
    · exact he.elim
  · exact he.elim
theorem end_val (hE : EnvOk E) (hrel : Rel ⟨E, N, fun _ => False, w, st⟩ ⟨s, H⟩ a w' st' ρ) {r : AV} (hnf : ∀ e sz els, r ≠ .fresh e sz els) (he : endV E fn.results.toList r s H) :
    ∃ v, (results fn a.tmps).run E.P w' = .ok v w' ∧ Gone w st r v w' := by
  have hfz := hrel.freeze (fun _ => true)
  unfold endV at he
  simp only [cond_eq_ite] at he
  split at he
  · rename_i hrd
    have fin2 : ∀ l, resAll E s H fn.results.toList = some l → (∀ vals, All2 (R3 w' (stA st' H ρ) ρ) l vals → persT r = true → R3 w' (stA st' H ρ) noρ r (if vals.length = 1 then vals.getD 0 undef else .tuple vals.toArray)) →
        ∃ v, (results fn a.tmps).run E.P w' = .ok v w' ∧ Gone w st r v w' := by
      intro l hl hgo
      obtain ⟨vals, e1, e2⟩ := resAll_run (X := ⟨E, N, fun _ => False, w, st⟩) hE hrel hl
      refine ⟨_, results_run e1, stA st' H ρ, hrel.ev, hfz.sub, fun b o hb ho => hfz.new b o hb (fun h => h) ho, hfz.sta, ?_⟩
      have hg := hgo vals e2
      cases r <;> first | exact hg | exact absurd rfl (hnf _ _ _)
    split at he
    · rename_i v hv
      refine fin2 _ hv fun vals h2 hp => ?_
      cases h2 with
      | cons h2 ht =>
        cases ht
        exact eqvR_up hp hrd he h2
    · rename_i l hl1 hl
      refine fin2 _ hl fun vals h2 hp => ?_
      rw [if_neg (fun hlen => ?_)]
      · cases r
        case tup l0 => exact ⟨vals, rfl, eqvT_up hp hrd he h2⟩
        case any => trivial
        case sl fl _ _ _ => cases fl <;> exact he.elim
        all_goals first | exact he.elim | cases hp
      · have := h2.length
        rw [hlen] at this
        match l, this with
        | [v], _ => exact hl1 v rfl
    · exact he.elim
  · exact he.elim
end
theorem fnOk_of_awp {E : Env} (hA : AllOk E) (hm : E.P.follows .mixedOrders = true) {f : Nat} {fn : Func} {c : Code} (hf : E.P.funcs[f]? = some fn) (hb : fn.body = some c) (hn : ¬ fn.name = "runtime.NumGoroutine") (hd : dstsIn fn.ntmps c = true)
    {C : Con} (INV : List AV → List (Nat × Inv))
    (h : ∀ as r, (C as).run = some r → as.all pers = true → AWP E (INV as) c (Ends E fn.results r) (argSlots as) noH) : FnOk E.P E.G f C := by
  intro as r hr hp w st vals hsta hg hargs
  refine .inl ⟨?_, calls_of_wp hf hb ?_⟩
  · simp [callFunc, hf, hn, hb]
  · have hR := rel_start (E := E) fn.ntmps hp hsta hg hargs
    refine awp_sound (X := ⟨E, _, fun _ => False, w, st⟩) hA hm c (Ends E fn.results r) _ (dstsIn_mono ?_ hd) ?_ _ _ _ _ _ _ hR (h as r hr hp)
    · simp; omega
    intro e s H a w' st' ρ he hrel
    have fin : Ends E fn.results r .ret s H → a.defers = [] ∧ ∃ v, (results fn a.tmps).run E.P w' = .ok v w' ∧ ∃ u, Ending.returned v = .returned u ∧ Gone w st r u w' := by
      intro he
      have key : ∃ v, (results fn a.tmps).run E.P w' = .ok v w' ∧ Gone w st r v w' := by
        cases r
        case fresh e sz els => exact end_fresh hrel he
        all_goals exact end_val hA.env hrel (fun _ _ _ h => by cases h) he
      obtain ⟨v, h1, h2⟩ := key
      exact ⟨hrel.defers, v, h1, v, rfl, h2⟩
    cases e with
    | normal => exact fin he
    | ret => exact fin he
    | exit i => exact he.elim
end Go.Eng
end
