/-
What is proved: 'midrangetop.TopTextsRefused' returns true for every input, and its arguments read behind the call as they read before (the tied card of the statement 'TopTextsRefused').
  Its conditions: the row's own: the ten listed package-level variables start as the program's text lays them (the card ties them to that text); nothing else is asked.
  Part 2 of 15.
-/
import Derived.Test.YtgcnbicoajjlaaaGreatDoorA1
import Derived.Deep.MidRow
import Derived.Lib.Strings
import Derived.Great.BuildSlice
import Derived.DataBytes
import Derived.Laws.Small
set_option linter.unusedSectionVars false
set_option linter.unusedVariables false
set_option linter.unusedSimpArgs false
section
set_option linter.unusedVariables false
set_option linter.unusedSimpArgs false
namespace Go.Eng
open Go
theorem beq_true {a b : Nat} (h : Nat.beq a b = true) : a = b := Nat.eq_of_beq_eq_true h
theorem beq_false {a b : Nat} (h : Nat.beq a b = false) : a ≠ b := fun e => by subst e; rw [Nat.beq_refl] at h; cases h
theorem nbeq {a b : Nat} (h : (!(Nat.beq a b)) = true) : a ≠ b := beq_false (by simpa using h)
theorem run_fieldPlace {P : Program} {w : World} {b o : Nat} {f : Field} (h : szP P f.type ≠ 0) : (fieldPlace ⟨b, o, none⟩ f).run P w = .ok ⟨b, o + f.offset, none⟩ w := by
  obtain ⟨inf, hi, hs⟩ := szP_info rfl h
  have : inf.size ≠ 0 := by omega
  simp [fieldPlace, sizeOf, typeInfo, hi, this, Addr.add_mid]
theorem R3_ptr {w : World} {st : Stab} {ρ : Nat → Loc} {k o : Nat} {v : Value} (h : R3 w st ρ (.ptr k o) v) : ∃ b, ρ k = .blk b ∧ v = .pointer (some ⟨b, o, none⟩) := h
theorem R3_rp {w : World} {st : Stab} {ρ : Nat → Loc} {k sz i o : Nat} {v : Value} (h : R3 w st ρ (.rp k sz i o) v) : ∃ g n c, ρ k = .rowv (.slice (some ⟨g, 0, none⟩) n c) ∧ v = .pointer (some ⟨g, i * sz + o, none⟩) := h
theorem R3_rd {w : World} {st : Stab} {ρ : Nat → Loc} {cs : List AV} {v : Value} (h : R3 w st ρ (.rd cs) v) : ∃ (b o : Nat) (vals : Nat → Value), v = .pointer (some ⟨b, o, none⟩) ∧
    (∀ j, j < cs.length → w.cell? ⟨b, o + j, none⟩ = some (vals j)) ∧ (∀ j, j < cs.length → st b (o + j)) ∧ ∀ j, j < cs.length → PV w st (cs.getD j .any) (vals j) := by
  cases (show PV w st (.rd cs) v from h) with
  | rd _ b o vals h1 h2 h3 => exact ⟨b, o, vals, rfl, h1, h2, h3⟩
theorem R3_sl {w : World} {st : Stab} {ρ : Nat → Loc} {full : Bool} {sz n : Nat} {f : Nat → List AV} {v : Value} (h : R3 w st ρ (.sl full sz n f) v) : ∃ (a : Option Addr) (c b o : Nat) (vals : Nat → Nat → Value), v = .slice a n c ∧ n ≤ c ∧ (full = true → c = n) ∧ c ≤ maxLen ∧
    (0 < n → a = some ⟨b, o, none⟩) ∧ (∀ i, i < n → (f i).length = sz) ∧ (∀ i j, i < n → j < sz → w.cell? ⟨b, o + i * sz + j, none⟩ = some (vals i j)) ∧
    (∀ i j, i < n → j < sz → st b (o + i * sz + j)) ∧ ∀ i j, i < n → j < sz → PV w st ((f i).getD j .any) (vals i j) := by
  cases (show PV w st (.sl full sz n f) v from h) with
  | sl _ _ _ c _ a b o vals h1 h2 h3 h4 h5 h6 h7 h8 => exact ⟨a, c, b, o, vals, rfl, h1, h2, h3, h4, h5, h6, h7, h8⟩
theorem R3_rda {w : World} {st : Stab} {ρ : Nat → Loc} {sz n : Nat} {f : Nat → List AV} {v : Value} (h : R3 w st ρ (.rda sz n f) v) : ∃ (b o : Nat) (vals : Nat → Nat → Value), v = .pointer (some ⟨b, o, none⟩) ∧
    (∀ i, i < n → (f i).length = sz) ∧ (∀ i j, i < n → j < sz → w.cell? ⟨b, o + i * sz + j, none⟩ = some (vals i j)) ∧
    (∀ i j, i < n → j < sz → st b (o + i * sz + j)) ∧ (∀ i j, i < n → j < sz → PV w st ((f i).getD j .any) (vals i j)) ∧ w.cell? ⟨b, o + n * sz, none⟩ = none ∧ st b (o + n * sz) := by
  cases (show PV w st (.rda sz n f) v from h) with
  | rda _ _ _ b o vals h1 h2 h3 h4 h5 h6 => exact ⟨b, o, vals, rfl, h1, h2, h3, h4, h5, h6⟩
theorem R_rd {w : World} {st : Stab} {ρ : Nat → Loc} {cs : List AV} {b o : Nat} (vals : Nat → Value)
    (hcell : ∀ j, j < cs.length → w.cell? ⟨b, o + j, none⟩ = some (vals j)) (hst : ∀ j, j < cs.length → st b (o + j)) (hp : ∀ j, j < cs.length → PV w st (cs.getD j .any) (vals j)) :
    R3 w st ρ (.rd cs) (.pointer (some ⟨b, o, none⟩)) := PV.rd cs b o vals hcell hst hp
theorem R_drop {w : World} {st : Stab} {ρ : Nat → Loc} {cs : List AV} {b o : Nat} {vals : Nat → Value} (k : Nat)
    (h1 : ∀ j, j < cs.length → w.cell? ⟨b, o + j, none⟩ = some (vals j)) (h2 : ∀ j, j < cs.length → st b (o + j)) (h3 : ∀ j, j < cs.length → PV w st (cs.getD j .any) (vals j)) :
    R3 w st ρ (.rd (cs.drop k)) (.pointer (some ⟨b, o + k, none⟩)) :=
  R_rd (fun j => vals (k + j)) (fun j hj => by rw [Nat.add_assoc]; exact h1 _ (by simp at hj; omega)) (fun j hj => by rw [Nat.add_assoc]; exact h2 _ (by simp at hj; omega))
    (fun j hj => by have := h3 (k + j) (by simp at hj; omega); simpa [List.getD_eq_getElem?_getD] using this)
theorem ofCells_sound {w : World} {st : Stab} {ρ : Nat → Loc} {ag : Bool} {l : List AV} {v : AV} (h : (ofCells ag l).run = some v) {cs : List Value} (hl : All2 (R1 w st ρ) l cs) (h1 : ∀ x ∈ cs, x.oneCell' = true) :
    (ag = true ∧ R3 w st ρ v (.agg cs.toArray)) ∨ (ag = false ∧ ∃ c r, cs = c :: r ∧ R3 w st ρ v c) := by
  cases ag with
  | true => exact .inl ⟨rfl, by rw [← Tr.run_ret h]; exact ⟨cs, rfl, hl, h1⟩⟩
  | false =>
    cases hl with
    | nil => exact (Tr.run_fail h).elim
    | @cons a b l m hr ht =>
      refine .inr ⟨rfl, b, m, rfl, ?_⟩
      rw [← Tr.run_ret h]
      cases a <;> first | exact hr | exact hr.elim
theorem isAgg_run {P : Program} {t : Nat} (h : (P.underlying t).isSome = true) (w : World) : (isAgg t).run P w = .ok (isAgP P t) w := by
  obtain ⟨d, hd⟩ := Option.isSome_iff_exists.1 h
  simp only [isAgg, Sem.run_bind, run_underlying hd, Result.andThen_ok, isAgP, hd]
  cases d <;> rfl
section
variable {E : Env} (hE : EnvOk E) {w : World} {st : Stab} {ρ : Nat → Loc} {f : Operand → AV} {g : Operand → Value} (ho : ∀ x, R3 w st ρ (f x) (g x)) {v : AV}
include hE ho
theorem fieldOff_ok {t i : Nat} {r : Nat × Nat × Bool} (h : fieldOff E t i = some r) : ∃ fields fl, E.P.underlying t = some (.struct fields) ∧ fields[i]? = some fl ∧ r = (fl.offset, szP E.P fl.type, isAgP E.P fl.type) ∧ (E.P.underlying fl.type).isSome = true := by
  unfold fieldOff at h
  split at h
  · rename_i fs hk
    obtain ⟨fields, h1, h2, rfl⟩ := kind_struct hE.tok hk
    simp only [List.getElem?_map, Option.map_eq_some_iff, Array.getElem?_toList] at h
    obtain ⟨fl, h3, h4⟩ := h
    exact ⟨fields, fl, h1, h3, h4.symm, h2 fl (by have := Array.mem_of_getElem? h3; simpa using this)⟩
  · cases h
theorem fieldAddr_sound {t i : Nat} {x : Operand} (h : (pureOp E f (.fieldAddr t x i)).run = some v) : ∃ val, (Instr.fieldAt t (g x) i).run E.P w = .ok val w ∧ R3 w st ρ v val := by
  simp only [pureOp] at h
  split at h
  · rename_i o fs ag k o' hf hx
    obtain ⟨fields, fl, h1, h2, h3, _⟩ := fieldOff_ok hE ho hf
    simp only [Prod.mk.injEq] at h3
    obtain ⟨rfl, rfl, rfl⟩ := h3
    have hg := ho x
    rw [hx] at hg
    obtain ⟨b, hb, hv⟩ := R3_ptr hg
    cases hz : Nat.beq (szP E.P fl.type) 0 with
    | true => rw [hz] at h; exact (Tr.run_fail h).elim
    | false =>
      rw [hz] at h
      refine ⟨.pointer (some ⟨b, o' + fl.offset, none⟩), ?_, by rw [← Tr.run_ret h]; exact ⟨b, hb, rfl⟩⟩
      simp [Instr.fieldAt, run_underlying h1, h2, hv, Instr.sureAddr, run_fieldPlace (beq_false hz)]
  · rename_i o fs ag k sz i' o' hf hx
    obtain ⟨fields, fl, h1, h2, h3, _⟩ := fieldOff_ok hE ho hf
    simp only [Prod.mk.injEq] at h3
    obtain ⟨rfl, rfl, rfl⟩ := h3
    have hg := ho x
    rw [hx] at hg
    obtain ⟨b, n, c, hb, hv⟩ := R3_rp hg
    cases hz : Nat.beq (szP E.P fl.type) 0 with
    | true => rw [hz] at h; exact (Tr.run_fail h).elim
    | false =>
      rw [hz] at h
      refine ⟨.pointer (some ⟨b, i' * sz + o' + fl.offset, none⟩), ?_, by rw [← Tr.run_ret h]; exact ⟨b, n, c, hb, by rw [Nat.add_assoc]⟩⟩
      simp [Instr.fieldAt, run_underlying h1, h2, hv, Instr.sureAddr, run_fieldPlace (beq_false hz)]
  · rename_i o fs ag cs hf hx
    obtain ⟨fields, fl, h1, h2, h3, _⟩ := fieldOff_ok hE ho hf
    simp only [Prod.mk.injEq] at h3
    obtain ⟨rfl, rfl, rfl⟩ := h3
    have hg := ho x
    rw [hx] at hg
    obtain ⟨b, o, vals, hv, q1, q2, q3⟩ := R3_rd hg
    cases hz : Nat.beq (szP E.P fl.type) 0 with
    | true => rw [hz] at h; exact (Tr.run_fail h).elim
    | false =>
      rw [hz] at h
      refine ⟨.pointer (some ⟨b, o + fl.offset, none⟩), ?_, by rw [← Tr.run_ret h]; exact R_drop _ q1 q2 q3⟩
      simp [Instr.fieldAt, run_underlying h1, h2, hv, Instr.sureAddr, run_fieldPlace (beq_false hz)]
  · exact (Tr.run_fail h).elim
theorem field_sound {t i : Nat} {x : Operand} (h : (pureOp E f (.field t x i)).run = some v) : ∃ val, (Instr.field t (g x) i).run E.P w = .ok val w ∧ R3 w st ρ v val := by
  simp only [pureOp] at h
  split at h
  · rename_i o fs ag l hf hx
    obtain ⟨fields, fl, h1, h2, h3, h4⟩ := fieldOff_ok hE ho hf
    simp only [Prod.mk.injEq] at h3
    obtain ⟨rfl, rfl, rfl⟩ := h3
    have hg := ho x
    rw [hx] at hg
    obtain ⟨cs, hv, hl, hone⟩ := R3_agg hg
    cases hz : Nat.beq (szP E.P fl.type) 0 with
    | true => rw [hz] at h; exact (Tr.run_fail h).elim
    | false =>
    rw [hz] at h
    simp only [cond_false] at h
    obtain ⟨inf, hi, hs⟩ := szP_info rfl (beq_false hz)
    have hl' := (hl.drop fl.offset).take (szP E.P fl.type)
    rcases ofCells_sound h hl' (fun x hx => hone x (List.mem_of_mem_drop (List.mem_of_mem_take hx))) with ⟨hag, hr⟩ | ⟨hag, c, r, hc, hr⟩
    · refine ⟨_, ?_, hr⟩
      simp [Instr.field, run_underlying h1, h2, hv, asAgg, part, isAgg_run h4, hag, sizeOf, typeInfo, hi, hs]
    · refine ⟨_, ?_, hr⟩
      have hco : cs[fl.offset]? = some c := by
        have h0 : ((cs.drop fl.offset).take (szP E.P fl.type))[0]? = some c := by rw [hc]; rfl
        rw [List.getElem?_take] at h0
        split at h0
        · simpa using h0
        · cases h0
      simp [Instr.field, run_underlying h1, h2, hv, asAgg, part, isAgg_run h4, hag, hco]
  · exact (Tr.run_fail h).elim
theorem extract_sound {x : Operand} {i : Nat} (h : (pureOp E f (.extract x i)).run = some v) : ∃ val, (Instr.extract (g x) i).run E.P w = .ok val w ∧ R3 w st ρ v val := by
  simp only [pureOp] at h
  split at h
  · rename_i l hx
    have hg := ho x
    rw [hx] at hg
    obtain ⟨cs, hv, hl⟩ : ∃ cs : List Value, g x = .tuple cs.toArray ∧ All2 (R2 w st ρ) l cs := hg
    split at h
    · rename_i a ha
      obtain ⟨b, hb, hr⟩ := hl.get ha
      refine ⟨b, by simp [Instr.extract, hv, hb], ?_⟩
      rw [← Tr.run_ret h]
      cases a <;> first | exact hr | exact hr.elim
    · exact (Tr.run_fail h).elim
  · exact (Tr.run_fail h).elim
theorem index_sound {t : Nat} {x i : Operand} (h : (pureOp E f (.index t x i)).run = some v) : ∃ val, (Instr.index t (g x) (g i)).run E.P w = .ok val w ∧ R3 w st ρ v val := by
  simp only [pureOp] at h
  split at h
  · rename_i s k n hx hi hk
    have hg := ho x
    rw [hx] at hg
    have hgi := ho i
    rw [hi] at hgi
    obtain ⟨⟨h0, h1⟩, h2⟩ := Tr.run_need h
    refine ⟨.int .u8 (s.getD n.toNat 0).toNat, ?_, by rw [← Tr.run_ret h2]; exact R_int ..⟩
    rw [R3_str hg, R3_int hgi]
    have hlt : n.toNat < s.length := by omega
    have hb : (⟨s.toArray⟩ : ByteArray)[n.toNat]? = some (s.getD n.toNat 0) := by
      have : n.toNat < (⟨s.toArray⟩ : ByteArray).size := by simp [ByteArray.size]; exact hlt
      rw [ByteArray.getElem?_lt' _ _ this]
      simp [List.getD_eq_getElem?_getD, hlt]
      rfl
    simp [Instr.index, asIntOf, run_underlying (kind_string hE.tok hk), h0, hb]
  · exact (Tr.run_fail h).elim
theorem indexAddr_sound {t : Nat} {x i : Operand} (h : (pureOp E f (.indexAddr t x i)).run = some v) : ∃ val, (Instr.indexAt t (g x) (g i)).run E.P w = .ok val w ∧ R3 w st ρ v val := by
  simp only [pureOp] at h
  split at h
  · rename_i fu sz n q k j e esz hx hi hk
    have hg := ho x
    rw [hx] at hg
    have hgi := ho i
    rw [hi] at hgi
    obtain ⟨hu, hz⟩ := kind_slice hE.tok hk
    cases hc : (Nat.beq sz esz && !(Nat.beq esz 0)) with
    | false => rw [hc] at h; exact (Tr.run_fail h).elim
    | true =>
    rw [hc] at h
    simp only [Bool.and_eq_true] at hc
    obtain rfl := beq_true hc.1
    have hnz := nbeq hc.2
    obtain ⟨⟨h0, h1⟩, h2⟩ := Tr.run_need h
    obtain ⟨inf, hin, hs⟩ := szP_info hz hnz
    obtain ⟨a, c, b, o, vals, hv, q1, q2, q3, q4, q5, q6, q7, q8⟩ := R3_sl hg
    have hj : j.toNat < n := by omega
    refine ⟨.pointer (some ⟨b, o + j.toNat * sz, none⟩), ?_, ?_⟩
    · rw [hv, R3_int hgi, q4 (by omega)]
      simp [Instr.indexAt, asIntOf, run_underlying hu, h0, h1, sizeOf, typeInfo, hin, hs, Addr.add_mid]
    · rw [← Tr.run_ret h2]
      have hl := q5 _ hj
      exact R_rd (vals j.toNat) (fun i hi => q6 _ _ hj (by omega)) (fun i hi => q7 _ _ hj (by omega)) (fun i hi => q8 _ _ hj (by omega))
  · rename_i sz n q k j m e esz hx hi hk
    have hg := ho x
    rw [hx] at hg
    have hgi := ho i
    rw [hi] at hgi
    obtain ⟨hu, hz⟩ := kind_array hE.tok hk
    cases hc : (Nat.beq sz esz && Nat.beq n m && !(Nat.beq esz 0)) with
    | false => rw [hc] at h; exact (Tr.run_fail h).elim
    | true =>
    rw [hc] at h
    simp only [Bool.and_eq_true] at hc
    obtain rfl := beq_true hc.1.1
    obtain rfl := beq_true hc.1.2
    have hnz := nbeq hc.2
    obtain ⟨⟨h0, h1⟩, h2⟩ := Tr.run_need h
    obtain ⟨inf, hin, hs⟩ := szP_info hz hnz
    obtain ⟨b, o, vals, hv, q5, q6, q7, q8, _, _⟩ := R3_rda hg
    have hj : j.toNat < n := by omega
    refine ⟨.pointer (some ⟨b, o + j.toNat * sz, none⟩), ?_, ?_⟩
    · rw [hv, R3_int hgi]
      simp [Instr.indexAt, asIntOf, run_underlying hu, h0, h1, sizeOf, typeInfo, hin, hs, Addr.add_mid, Instr.sureAddr]
    · rw [← Tr.run_ret h2]
      have hl := q5 _ hj
      exact R_rd (vals j.toNat) (fun i hi => q6 _ _ hj (by omega)) (fun i hi => q7 _ _ hj (by omega)) (fun i hi => q8 _ _ hj (by omega))
  · exact (Tr.run_fail h).elim
omit hE in
theorem bnd_sound {lo hi : Option Operand} {n : Nat} {k : Nat → Nat → Tr AV} (h : (bnd f lo hi n k).run = some v) :
    ∃ l m : Nat, l ≤ m ∧ m ≤ n ∧ (k l m).run = some v ∧ ∀ (P : Program) (isS : Bool) (cap : Nat), n ≤ cap → (Instr.sliceBounds isS n cap (lo.map g) (hi.map g) none).run P w = .ok (l, m, cap) w := by
  unfold bnd at h
  split at h
  · rename_i hh
    have hhi : hi = none := by cases hi with | none => rfl | some y => cases hh
    subst hhi
    split at h
    · rename_i hl
      have hlo : lo = none := by cases lo with | none => rfl | some y => cases hl
      subst hlo
      exact ⟨0, n, by omega, by omega, h, fun P isS cap hc => by simp [Instr.sliceBounds]⟩
    · rename_i kk l hl
      cases lo with
      | none => cases hl
      | some y =>
      simp only [Option.map_some, Option.some.injEq] at hl
      have hy := ho y
      rw [hl] at hy
      obtain ⟨⟨h0, h1⟩, h2⟩ := Tr.run_need h
      exact ⟨l.toNat, n, by omega, by omega, h2, fun P isS cap hc => by simp [Instr.sliceBounds, Instr.sliceBound, R3_int hy, asIntOf, h0, h1]⟩
    · exact (Tr.run_fail h).elim
  · rename_i kk m hh
    cases hi with
    | none => cases hh
    | some z =>
    simp only [Option.map_some, Option.some.injEq] at hh
    have hz := ho z
    rw [hh] at hz
    obtain ⟨⟨h0, h1⟩, h2⟩ := Tr.run_need h
    split at h2
    · rename_i hl
      have hlo : lo = none := by cases lo with | none => rfl | some y => cases hl
      subst hlo
      exact ⟨0, m.toNat, by omega, by omega, h2, fun P isS cap hc => by
        have hm : m ≤ (cap : Int) := by omega
        simp [Instr.sliceBounds, Instr.sliceBound, R3_int hz, asIntOf, h0, hm]⟩
    · rename_i kk' l hl
      cases lo with
      | none => cases hl
      | some y =>
      simp only [Option.map_some, Option.some.injEq] at hl
      have hy := ho y
      rw [hl] at hy
      obtain ⟨⟨h3, h4⟩, h5⟩ := Tr.run_need h2
      exact ⟨l.toNat, m.toNat, by omega, by omega, h5, fun P isS cap hc => by
        have hm : m ≤ (cap : Int) := by omega
        have hlm : l ≤ max m 0 := by omega
        simp [Instr.sliceBounds, Instr.sliceBound, R3_int hz, R3_int hy, asIntOf, h0, hm, h3, hlm]⟩
    · exact (Tr.run_fail h2).elim
  · exact (Tr.run_fail h).elim
theorem slice_sound {t : Nat} {x : Operand} {lo hi : Option Operand} (h : (pureOp E f (.slice t x lo hi none)).run = some v) :
    ∃ val, (Instr.sliceAt t (g x) (lo.map g) (hi.map g) none).run E.P w = .ok val w ∧ R3 w st ρ v val := by
  simp only [pureOp] at h
  split at h
  · rename_i s hx hk
    have hg := ho x
    rw [hx] at hg
    obtain ⟨l, m, h1, h2, h3, h4⟩ := bnd_sound ho h
    have hu := kind_string hE.tok hk
    refine ⟨.string ⟨((s.drop l).take (m - l)).toArray⟩, ?_, by rw [← Tr.run_ret h3]; exact R_str ..⟩
    have hsz : (⟨s.toArray⟩ : ByteArray).size = s.length := by simp [ByteArray.size]
    simp [Instr.sliceAt, Instr.slice, run_underlying hu, R3_str hg, hsz, h4 E.P false s.length (Nat.le_refl _), Lib.extract_eq]
  · rename_i fu sz n q e esz hx hk
    have hg := ho x
    rw [hx] at hg
    obtain ⟨hu, hz⟩ := kind_slice hE.tok hk
    cases hc : (Nat.beq sz esz && !(Nat.beq esz 0)) with
    | false => rw [hc] at h; exact (Tr.run_fail h).elim
    | true =>
    rw [hc] at h
    simp only [Bool.and_eq_true] at hc
    obtain rfl := beq_true hc.1
    have hnz := nbeq hc.2
    obtain ⟨inf, hin, hs⟩ := szP_info hz hnz
    obtain ⟨a, c, b, o, vals, hv, q1, q2, q3, q4, q5, q6, q7, q8⟩ := R3_sl hg
    simp only [cond_true] at h
    obtain ⟨l, m, h1, h2, h3, h4⟩ := bnd_sound ho h
    refine ⟨.slice (if c = l then a else a.map (·.add (l * sz))) (m - l) (c - l), ?_, ?_⟩
    · simp [Instr.sliceAt, Instr.slice, run_underlying hu, hv, h4 E.P true c q1, sizeOf, typeInfo, hin, hs]
    · rw [← Tr.run_ret h3]
      refine PV.sl false sz (m - l) (c - l) (fun i => q (l + i)) _ b (o + l * sz) (fun i j => vals (l + i) j) (by omega) (by simp) (by omega) ?_ (fun i hi => q5 _ (by omega)) ?_ ?_ (fun i j hi hj => q8 _ _ (by omega) hj)
      · intro hpos
        rw [q4 (by omega), if_neg (by omega)]
        simp [Addr.add_mid]
      · intro i j hi hj
        have := q6 (l + i) j (by omega) hj
        rwa [Nat.add_mul, ← Nat.add_assoc] at this
      · intro i j hi hj
        have := q7 (l + i) j (by omega) hj
        rwa [Nat.add_mul, ← Nat.add_assoc] at this
  · rename_i sz n q m e esz hx hk
    have hg := ho x
    rw [hx] at hg
    obtain ⟨hu, hz⟩ := kind_array hE.tok hk
    split at h
    · simp only [cond_eq_ite] at h
      split at h
      · rename_i hc
        simp only [Bool.and_eq_true] at hc
        obtain ⟨⟨⟨⟨hc1, hc2⟩, hc3⟩, hc4⟩, hc5⟩ := hc
        obtain rfl := beq_true hc1
        obtain rfl := beq_true hc3
        have hnz := nbeq hc2
        have hnn := nbeq hc4
        have hle := Nat.le_of_ble_eq_true hc5
        obtain ⟨inf, hin, hs⟩ := szP_info hz hnz
        obtain ⟨b, o, vals, hv, q5, q6, q7, q8, _, _⟩ := R3_rda hg
        refine ⟨.slice (some ⟨b, o, none⟩) n n, ?_, ?_⟩
        · simp [Instr.sliceAt, Instr.sliceBounds, Instr.sureAddr, run_underlying hu, hv, sizeOf, typeInfo, hin, hs, Addr.add_mid]
        · rw [← Tr.run_ret h]
          exact PV.sl false sz n n q _ b o vals (Nat.le_refl _) (by simp) (by unfold maxLen; omega) (fun _ => rfl) q5 q6 q7 q8
      · exact (Tr.run_fail h).elim
    · exact (Tr.run_fail h).elim
  · exact (Tr.run_fail h).elim
theorem convert_sound {s t : Nat} {x : Operand} (h : (pureOp E f (.convert s t x)).run = some v) : ∃ val, (Go.convert s t (g x)).run E.P w = .ok val w ∧ R3 w st ρ v val := by
  simp only [pureOp] at h
  split at h
  · rename_i k n k1 k2 hx hd hs
    have hg := ho x
    rw [hx] at hg
    refine ⟨.int k1 (k1.wrap n), ?_, by rw [← Tr.run_ret h]; exact R_int ..⟩
    simp [Go.convert, R3_int hg, run_underlying (kind_int hE.tok hd), run_underlying (kind_int hE.tok hs), Conv.intToInt]
  · exact (Tr.run_fail h).elim
omit hE ho in
theorem R3_pers1 {a : AV} {x : Value} (hp : pers1 a = true) (h : R3 w st ρ a x) : R1 w st ρ a x := by
  cases a <;> first | exact h | (simp [pers1] at hp)
theorem makeInterface_sound {t : Nat} {x : Operand} (h : (pureOp E f (.makeInterface t x)).run = some v) :
    ∃ val, (Instr.makeInterface t (g x)).run E.P w = .ok val w ∧ R3 w st ρ v val := by
  simp only [pureOp] at h
  split at h
  · exact (Tr.run_fail h).elim
  · rename_i i hne hi
    obtain ⟨inf, d, h1, h2, h3, h4, h5, _⟩ := ti_parts hE.tok hi
    cases hp : pers1 (f x) with
    | false => rw [hp] at h; exact (Tr.run_fail h).elim
    | true =>
    rw [hp] at h
    refine ⟨.iface t (g x), ?_, by rw [← Tr.run_ret h]; exact ⟨g x, rfl, R3_pers1 hp (ho x)⟩⟩
    simp only [Instr.makeInterface, Sem.run_bind, run_underlying h2, Result.andThen_ok]
    cases d <;> first | rfl | skip
    have hk : i.k = .iface := by rw [h5]; rfl
    exact (hne i.size i.zero (by cases i; simp_all)).elim
  · exact (Tr.run_fail h).elim
theorem nilCheck_sound {x : Operand} (h : (pureOp E f (.nilCheck x)).run = some v) {o : Oper} (hop : o.op = .nilCheck x) : ∃ val, (execOp g o).run E.P w = .ok (.value val) w ∧ R3 w st ρ v val := by
  simp only [pureOp] at h
  have hg := ho x
  refine ⟨g x, ?_, ?_⟩
  · split at h
    · rename_i hx; rw [hx] at hg; obtain ⟨b, _, hv⟩ := R3_ptr hg; simp [execOp, hop, hv]
    · rename_i hx; rw [hx] at hg; obtain ⟨b, o, vals, hv, _⟩ := R3_rd hg; simp [execOp, hop, hv]
    · rename_i hx; rw [hx] at hg; obtain ⟨b, o, vals, _, hv⟩ := R3_rp hg; simp [execOp, hop, hv]
    · rename_i hx; rw [hx] at hg; obtain ⟨b, o, vals, hv, _⟩ := R3_rda hg; simp [execOp, hop, hv]
    · rename_i fn c hx; rw [hx] at hg
      obtain ⟨cs, hv, _⟩ : ∃ cs : List Value, g x = .func (.func fn) #[] cs.toArray ∧ All2 (R1 w st ρ) c cs := hg
      simp [execOp, hop, hv]
    · rename_i hx; rw [hx] at hg; obtain ⟨z, hv, _⟩ := R3_ifc hg; simp [execOp, hop, hv]
    · exact (Tr.run_fail h).elim
  · split at h
    all_goals first | (rename_i hx; rw [← Tr.run_ret h, ← hx]; exact hg) | exact (Tr.run_fail h).elim
end
theorem cells_rel {w : World} {st : Stab} {ρ : Nat → Loc} {a : AV} {v : Value} (hc : cellsOk a = true) (h : R3 w st ρ a v) : All2 (R1 w st ρ) (cellsOf a) v.cells.toList ∧ ∀ x ∈ v.cells.toList, x.oneCell' = true := by
  have one : ∀ {a : AV}, isCell a = true → R1 w st ρ a v → cellsOf a = [a] ∧ v.cells = #[v] ∧ v.oneCell' = true := by
    intro a ha hr
    cases a <;> first | (simp [isCell] at ha; done) | skip
    case row k => obtain ⟨a, n, c, rfl, _⟩ := hr; exact ⟨rfl, rfl, rfl⟩
    case ptr k o => obtain ⟨b, _, rfl⟩ := hr; exact ⟨rfl, rfl, rfl⟩
    case rp k sz i o => obtain ⟨b, n, c, _, rfl⟩ := hr; exact ⟨rfl, rfl, rfl⟩
    all_goals exact ⟨rfl, PV.cells hr, PV.one hr⟩
  cases a <;> first | (simp [cellsOk, isCell] at hc; done) | skip
  case agg l => obtain ⟨cs, rfl, h1, h2⟩ := h; exact ⟨by simpa [Value.cells, cellsOf] using h1, by simpa [Value.cells] using h2⟩
  all_goals
    simp only [R3, R2] at h
    obtain ⟨h1, h2, h3⟩ := one (by rfl) h
    rw [h1, h2]
    exact ⟨.cons h .nil, by simpa using h3⟩
theorem foldl_set_eq (vs : List Value) : ∀ (o j : Nat) (cs : List Value), o + j + vs.length ≤ cs.length →
    ((vs.zipIdx j).foldl (fun (cs : Array Value) (x : Value × Nat) => cs.setIfInBounds (o + x.2) x.1) cs.toArray) = (cs.take (o + j) ++ vs ++ cs.drop (o + j + vs.length)).toArray := by
  induction vs with
  | nil => intro o j cs h; simp
  | cons v vs ih =>
    intro o j cs h
    simp only [List.zipIdx_cons, List.foldl_cons, List.setIfInBounds_toArray]
    simp only [List.length_cons] at h
    have := ih o (j + 1) (cs.set (o + j) v) (by simp; omega)
    rw [this]
    congr 1
    have e1 : (cs.set (o + j) v).take (o + (j + 1)) = cs.take (o + j) ++ [v] := by
      rw [show o + (j + 1) = (o + j) + 1 from by omega, List.take_add_one]
      rw [List.take_set_of_le (by omega)]
      simp [show o + j < cs.length by omega]
    have e2 : (cs.set (o + j) v).drop (o + (j + 1) + vs.length) = cs.drop (o + j + (vs.length + 1)) := by
      rw [List.drop_set_of_lt (by omega)]
      congr 1
      omega
    rw [e1, e2]
    simp
theorem fill_rel {R : AV → Value → Prop} {place : Nat → Option (Nat × Nat)} : ∀ {ps : List (Nat × AV)} {qs : List (Nat × Value)} {cells out : List AV} {cs : List Value},
    All2 (fun p q => p.1 = q.1 ∧ All2 R (cellsOf p.2) q.2.cells.toList) ps qs → All2 R cells cs → fill place cells ps = some out →
    ∃ os, Instr.fill place cs.toArray qs = some os.toArray ∧ All2 R out os ∧ (∀ x ∈ os, x ∈ cs ∨ ∃ q ∈ qs, x ∈ q.2.cells.toList) := by
  intro ps
  induction ps with
  | nil =>
    intro qs cells out cs hp hc h
    cases hp
    simp only [fill, Option.some.injEq] at h
    subst h
    exact ⟨cs, rfl, hc, fun x hx => .inl hx⟩
  | cons p ps ih =>
    intro qs cells out cs hp hc h
    cases hp with
    | @cons _ q _ qs hpq hps =>
    obtain ⟨i, a⟩ := p
    obtain ⟨j, v⟩ := q
    obtain ⟨hij, hcv⟩ := hpq
    obtain rfl : i = j := hij
    simp only [fill] at h
    cases hpl : place i with
    | none => rw [hpl] at h; cases h
    | some os =>
    obtain ⟨o, sz⟩ := os
    rw [hpl] at h
    simp only at h
    cases hcond : (Nat.beq (cellsOf a).length sz && Nat.ble (o + sz) cells.length) with
    | false => rw [hcond] at h; cases h
    | true =>
    rw [hcond] at h
    simp only [cond_true] at h
    simp only [Bool.and_eq_true] at hcond
    obtain rfl := beq_true hcond.1
    have hle : o + (cellsOf a).length ≤ cells.length := Nat.le_of_ble_eq_true hcond.2
    have hlen : (cellsOf a).length = v.cells.size := by have := hcv.length; simpa using this
    have hcl := hc.length
    have hset : All2 R (setRange cells o (cellsOf a)) (cs.take o ++ v.cells.toList ++ cs.drop (o + v.cells.toList.length)) := by
      unfold setRange
      have : (cellsOf a).length = v.cells.toList.length := hcv.length
      rw [this]
      exact ((hc.take o).append hcv).append (hc.drop _)
    obtain ⟨os, h1, h2, h3⟩ := ih hps hset h
    refine ⟨os, ?_, h2, ?_⟩
    · simp only [Instr.fill, hpl]
      have hn : ¬ (v.cells.size ≠ (cellsOf a).length ∨ o + v.cells.size > cs.length) := by omega
      have hn' : (decide (v.cells.size ≠ (cellsOf a).length) || decide (o + v.cells.size > cs.toArray.size)) = false := by
        simp only [Bool.or_eq_false_iff, decide_eq_false_iff_not, List.size_toArray]
        omega
      simp only [hn', Bool.false_eq_true, if_false]
      have hf := foldl_set_eq v.cells.toList o 0 cs (by simp; omega)
      simp only [Nat.add_zero] at hf
      have hz : (v.cells.zipIdx.foldl (fun cs (x : Value × Nat) => cs.setIfInBounds (o + x.2) x.1) cs.toArray) = (cs.take o ++ v.cells.toList ++ cs.drop (o + v.cells.toList.length)).toArray := by
        rw [← hf, ← Array.foldl_toList]
        simp
      rw [← h1, ← hz]
    · intro x hx
      rcases h3 x hx with h4 | ⟨q, hq, h4⟩
      · simp only [List.mem_append] at h4
        rcases h4 with (h4 | h4) | h4
        · exact .inl (List.mem_of_mem_take h4)
        · exact .inr ⟨(i, v), by simp, h4⟩
        · exact .inl (List.mem_of_mem_drop h4)
      · exact .inr ⟨q, by simp [hq], h4⟩
end Go.Eng
end
section
set_option linter.unusedVariables false
set_option linter.unusedSimpArgs false
namespace Go.Eng
open Go
theorem abs1_rel (w : World) (st : Stab) (ρ : Nat → Loc) (v : Value) : R1 w st ρ (abs1 v) v := by
  unfold abs1
  split
  · exact PV.bool _
  · exact PV.int _ _
  · exact PV.str _
  · exact PV.nilS
  · exact PV.nilI
  · exact PV.nilP
  · exact PV.nilF
  · trivial
theorem absV_rel (w : World) (st : Stab) (ρ : Nat → Loc) (v : Value) : R3 w st ρ (absV v) v := by
  unfold absV
  split
  · rename_i cs
    cases h : cs.toList.all (·.oneCell') with
    | false => trivial
    | true =>
    refine ⟨cs.toList, by simp, ?_, fun x hx => ?_⟩
    · refine All2.map_left ?_
      have : ∀ l : List Value, All2 (fun a b => R1 w st ρ (abs1 a) b) l l := fun l => by
        induction l with
        | nil => exact .nil
        | cons a l ih => exact .cons (abs1_rel ..) ih
      exact this _
    · exact (List.all_eq_true.1 h) x hx
  · have := abs1_rel w st ρ v
    generalize ha : abs1 v = a at this
    cases a <;> first | exact this | exact this.elim
theorem zero_rel {E : Env} (hE : EnvOk E) {t : Nat} {i : TI} (h : E.ti t = some i) (w : World) (st : Stab) (ρ : Nat → Loc) :
    ∃ inf z, E.P.info? t = some inf ∧ inf.zero = some z ∧ All2 (R1 w st ρ) i.zero z.cells.toList ∧ ∀ x ∈ z.cells.toList, x.oneCell' = true := by
  obtain ⟨inf, d, h1, h2, h3, h4, h5, z, hz, hone⟩ := ti_parts hE.tok h
  refine ⟨inf, z, h1, hz, ?_, fun x hx => (Array.all_eq_true'.1 hone) x (by simpa using hx)⟩
  rw [h4]
  have := absV_rel w st ρ z
  simp only [zeroP, hz]
  generalize ha : absV z = a at this
  cases a
  case agg l => obtain ⟨cs, hc, hl, _⟩ := R3_agg this; rw [hc]; simpa [Value.cells] using hl
  all_goals
    have hna : ∀ cs, z ≠ .agg cs := fun cs hc => by
      subst hc
      have h2 : cs.toList.all (·.oneCell') = true := by simpa [Value.cells] using hone
      simp only [absV, h2, cond_true] at ha
      cases ha
    have hcz : z.cells = #[z] := by cases z <;> first | rfl | exact absurd rfl (hna _)
    rw [hcz]
    refine .cons ?_ .nil
    first | exact this | (have h9 := abs1_rel w st ρ z; unfold absV at ha; split at ha <;> first | (exact absurd rfl (hna _)) | (rw [ha] at h9; exact h9))
section
variable {E : Env} (hE : EnvOk E) {w : World} {st : Stab} {ρ : Nat → Loc} {f : Operand → AV} {g : Operand → Value} (ho : ∀ x, R3 w st ρ (f x) (g x)) {v : AV}
include hE ho
omit hE in
theorem parts_rel {ps : List (Nat × Operand)} (hall : ps.all (fun p => cellsOk (f p.2)) = true) :
    All2 (fun (p : Nat × AV) (q : Nat × Value) => p.1 = q.1 ∧ All2 (R1 w st ρ) (cellsOf p.2) q.2.cells.toList) (ps.map fun p => (p.1, f p.2)) (ps.map fun p => (p.1, g p.2)) ∧
    ∀ q ∈ ps.map (fun p => (p.1, g p.2)), ∀ x ∈ q.2.cells.toList, x.oneCell' = true := by
  induction ps with
  | nil => exact ⟨.nil, by simp⟩
  | cons p ps ih =>
    simp only [List.all_cons, Bool.and_eq_true] at hall
    obtain ⟨h1, h2⟩ := ih hall.2
    obtain ⟨h3, h4⟩ := cells_rel hall.1 (ho p.2)
    refine ⟨.cons ⟨rfl, h3⟩ h1, ?_⟩
    intro q hq
    simp only [List.map_cons, List.mem_cons] at hq
    rcases hq with rfl | hq
    · exact h4
    · exact h2 q hq
theorem build_sound {t : Nat} {parts : Array (Nat × Operand)} (h : (pureOp E f (.build t parts)).run = some v) :
    ∃ val, (Instr.build t (parts.map fun (i, x) => (i, g x))).run E.P w = .ok val w ∧ R3 w st ρ v val := by
  have hparts : (parts.map fun (x : Nat × Operand) => (x.1, g x.2)).toList = parts.toList.map fun p => (p.1, g p.2) := by simp
  simp only [pureOp] at h
  split at h
  · rename_i fs hk
    obtain ⟨fields, hu, hf1, hf2⟩ := kind_struct hE.tok hk
    obtain ⟨ti, hti, _⟩ := kind_ti hk (by simp)
    obtain ⟨inf, z, hi, hz, hzr, hz1⟩ := zero_rel hE hti w st ρ
    have hzero : E.zero t = ti.zero := by simp [Env.zero, hti]
    cases hc : (parts.toList.all (fun p => cellsOk (f p.2)) && fs.all fun f => !(Nat.beq f.2.1 0)) with
    | false => rw [hc] at h; exact (Tr.run_fail h).elim
    | true =>
    rw [hc] at h
    simp only [Bool.and_eq_true] at hc
    simp only [cond_true] at h
    obtain ⟨p1, p2⟩ := parts_rel ho hc.1
    split at h
    · rename_i l hfill
      rw [hzero] at hfill
      obtain ⟨os, o1, o2, o3⟩ := fill_rel p1 hzr hfill
      refine ⟨.agg os.toArray, run_build w t _ _ ?_, ?_⟩
      · have hpl : fields.toList.mapM (fun f => (E.P.info? f.type).map fun i => (f.offset, i.size)) = some (fields.toList.map fun f => (f.offset, szP E.P f.type)) := by
          refine mapM_some_of_forall _ fun x hx => ?_
          have hne : szP E.P x.type ≠ 0 := by
            have := List.all_eq_true.1 hc.2 (x.offset, szP E.P x.type, isAgP E.P x.type) (by rw [hf2]; exact List.mem_map.2 ⟨x, hx, rfl⟩)
            exact nbeq this
          obtain ⟨inf', hi', hs'⟩ := szP_info rfl hne
          simp [hi', hs']
        simp only [Program.built, hi, hu, hz, hpl, hparts]
        rw [← o1]
        congr 1
        funext i
        rw [hf2]
        simp [List.getElem?_map]
        cases fields[i]? <;> rfl
      · rw [← Tr.run_ret h]
        refine ⟨os, rfl, o2, fun x hx => ?_⟩
        rcases o3 x hx with h3 | ⟨q, hq, h3⟩
        · exact hz1 x h3
        · exact p2 q hq x h3
    · exact (Tr.run_fail h).elim
  · rename_i n e sz hk
    obtain ⟨hu, hsz⟩ := kind_array hE.tok hk
    obtain ⟨ti, hti, _⟩ := kind_ti hk (by simp)
    obtain ⟨inf, z, hi, hz, hzr, hz1⟩ := zero_rel hE hti w st ρ
    have hzero : E.zero t = ti.zero := by simp [Env.zero, hti]
    cases hc : (parts.toList.all (fun p => cellsOk (f p.2)) && !(Nat.beq sz 0)) with
    | false => rw [hc] at h; exact (Tr.run_fail h).elim
    | true =>
    rw [hc] at h
    simp only [Bool.and_eq_true] at hc
    simp only [cond_true] at h
    obtain ⟨p1, p2⟩ := parts_rel ho hc.1
    obtain ⟨inf', hi', hs'⟩ := szP_info hsz (nbeq hc.2)
    split at h
    · rename_i l hfill
      rw [hzero] at hfill
      obtain ⟨os, o1, o2, o3⟩ := fill_rel p1 hzr hfill
      refine ⟨.agg os.toArray, run_build w t _ _ ?_, ?_⟩
      · simp only [Program.built, hi, hu, hz, hi', hparts, hs']
        rw [← o1]
      · rw [← Tr.run_ret h]
        refine ⟨os, rfl, o2, fun x hx => ?_⟩
        rcases o3 x hx with h3 | ⟨q, hq, h3⟩
        · exact hz1 x h3
        · exact p2 q hq x h3
    · exact (Tr.run_fail h).elim
  · exact (Tr.run_fail h).elim
theorem len_sound {args : Array Operand} {at_ : Array TypeId} {ty : TypeId} (h : (pureOp E f (.call { callee := .builtin .len, args, argTypes := at_ })).run = some v) :
    ∃ val, (Builtin.len_ at_ ty (args.map g)).run E.P w = .ok val w ∧ R3 w st ρ v val := by
  simp only [pureOp] at h
  cases ha : args[0]? with
  | none => simp only [ha, Option.map_none] at h; exact (Tr.run_fail h).elim
  | some x =>
  cases ht : at_[0]? with
  | none => simp only [ha, ht, Option.map_some, Option.map_none] at h; split at h <;> first | (exact (Tr.run_fail h).elim) | (rename_i hq; cases hq)
  | some t =>
  have hg := ho x
  have hax : (args.map g)[0]? = some (g x) := by simp [ha]
  simp only [ha, ht, Option.map_some] at h
  split at h
  · rename_i s hx hk
    simp only [Option.some.injEq] at hx hk
    rw [hx] at hg
    have hu := kind_string hE.tok hk
    rw [R3_str hg] at hax
    refine ⟨goInt s.length, ?_, by rw [← Tr.run_ret h]; exact R_int ..⟩
    simp only [Builtin.len_, ht, hax, Sem.run_bind, run_underlying hu, Result.andThen_ok, Sem.run_pure, ByteArray.size, List.size_toArray]
  · rename_i fu sz n q e esz hx hk
    simp only [Option.some.injEq] at hx hk
    rw [hx] at hg
    obtain ⟨a, c, b, o, vals, hv, _⟩ := R3_sl hg
    exact ⟨_, by simp [Builtin.len_, ht, ha, run_underlying (kind_slice hE.tok hk).1, hv, goInt]; rfl, by rw [← Tr.run_ret h]; exact R_int ..⟩
  · rename_i e esz hx hk
    simp only [Option.some.injEq] at hx hk
    rw [hx] at hg
    exact ⟨_, by simp [Builtin.len_, ht, ha, run_underlying (kind_slice hE.tok hk).1, R3_nilS hg, goInt]; rfl, by rw [← Tr.run_ret h]; exact R_int ..⟩
  · rename_i n e esz hx hk
    simp only [Option.some.injEq] at hk
    have hu := (kind_array hE.tok hk).1
    refine ⟨goInt n, ?_, by rw [← Tr.run_ret h]; exact R_int ..⟩
    simp only [Builtin.len_, ht, hax, Sem.run_bind, run_underlying hu, Result.andThen_ok, Sem.run_pure]
  · exact (Tr.run_fail h).elim
end
theorem keys1_pers {a : AV} (h : pers1 a = true) : keys1 a = [] := by cases a <;> first | rfl | (simp [pers1] at h)
theorem keys_pers {a : AV} (h : pers a = true) : keys a = [] := by
  cases a <;> first | rfl | skip
  case row => simp [pers, pers1] at h
  case ptr => simp [pers, pers1] at h
  case rp => simp [pers, pers1] at h
  case agg l =>
    simp only [pers, List.all_eq_true] at h
    simp only [keys, List.flatMap_eq_nil_iff]
    exact fun x hx => keys1_pers (h x hx)
  case clo f l =>
    simp only [pers, List.all_eq_true] at h
    simp only [keys, List.flatMap_eq_nil_iff]
    exact fun x hx => keys1_pers (h x hx)
  case ifc t v => simp only [pers] at h; exact keys1_pers h
theorem keys1_persA {a : AV} (h : persA1 a = true) : keys1 a = [] := by cases a <;> first | rfl | (simp [persA1, pers1] at h)
theorem keys_persA {a : AV} (h : persA a = true) : keys a = [] := by
  cases a <;> first | rfl | skip
  case row => simp [persA, persA1, pers1] at h
  case ptr => simp [persA, persA1, pers1] at h
  case rp => simp [persA, persA1, pers1] at h
  case agg l =>
    simp only [persA, List.all_eq_true] at h
    simp only [keys, List.flatMap_eq_nil_iff]
    exact fun x hx => keys1_persA (h x hx)
  case clo f l =>
    simp only [persA, List.all_eq_true] at h
    simp only [keys, List.flatMap_eq_nil_iff]
    exact fun x hx => keys1_persA (h x hx)
  case ifc t v => simp only [persA] at h; exact keys1_persA h
theorem keysT_pers {a : AV} (h : persT a = true) : keysT a = [] := by
  cases a <;> first | (simp only [persT] at h; simp only [keysT]; exact keys_persA h) | skip
  case tup l =>
    simp only [persT, List.all_eq_true] at h
    simp only [keysT, List.flatMap_eq_nil_iff]
    exact fun x hx => keys_persA (h x hx)
theorem keys1_abs1 (v : Value) : keys1 (abs1 v) = [] := by unfold abs1; split <;> rfl
theorem keysT_abs1 (v : Value) : keysT (abs1 v) = [] := by unfold abs1; split <;> rfl
theorem keysT_absV (v : Value) : keysT (absV v) = [] := by
  unfold absV
  split
  · rename_i cs
    cases cs.toList.all (·.oneCell')
    · rfl
    · simp only [cond_true, keysT, keys, List.flatMap_eq_nil_iff, List.mem_map]
      rintro x ⟨y, _, rfl⟩
      exact keys1_abs1 y
  · exact keysT_abs1 v
theorem zero_keys {E : Env} (hE : EnvOk E) (t : Nat) : ∀ c ∈ E.zero t, keys1 c = [] := by
  unfold Env.zero
  split
  · rename_i i hi
    obtain ⟨inf, d, _, _, _, h, _⟩ := ti_parts hE.tok hi
    rw [h]
    unfold zeroP
    split
    · rename_i v _
      have := keysT_absV v
      split
      · rename_i l hl
        rw [hl] at this
        simpa [keysT, keys] using this
      · rename_i x hx
        intro c hc
        simp only [List.mem_singleton] at hc
        subst hc
        unfold absV
        unfold absV at hx
        split at hx
        · simp only [cond_eq_ite] at hx ⊢
          split at hx
          · exact absurd rfl (hx _)
          · rename_i hn
            rw [if_neg hn]; rfl
        · rename_i hv
          cases v <;> first | exact keys1_abs1 _ | exact (hv _ rfl).elim
    · simp
  · simp
theorem keysT_of1 {a : AV} {k : Nat} (h : k ∈ keys1 a) : k ∈ keysT a := by cases a <;> simp [keys1] at h <;> simpa [keysT, keys, keys1] using h
theorem cellsOf_keys {a : AV} {k : Nat} {c : AV} (hc : c ∈ cellsOf a) (h : k ∈ keys1 c) : k ∈ keysT a := by
  cases a <;> first | (simp only [cellsOf, List.mem_singleton] at hc; subst hc; exact keysT_of1 h) | skip
  case agg l => simp only [keysT, keys, List.mem_flatMap]; exact ⟨c, hc, h⟩
theorem fill_mem {place : Nat → Option (Nat × Nat)} : ∀ {ps : List (Nat × AV)} {cells out : List AV}, fill place cells ps = some out → ∀ c ∈ out, c ∈ cells ∨ ∃ p ∈ ps, c ∈ cellsOf p.2 := by
  intro ps
  induction ps with
  | nil => intro cells out h c hc; simp only [fill, Option.some.injEq] at h; subst h; exact .inl hc
  | cons p ps ih =>
    intro cells out h c hc
    obtain ⟨i, v⟩ := p
    simp only [fill] at h
    split at h
    · cases h
    · rename_i o sz _
      cases hcond : (Nat.beq (cellsOf v).length sz && Nat.ble (o + sz) cells.length) with
      | false => rw [hcond] at h; cases h
      | true =>
        rw [hcond] at h
        rcases ih h c hc with h1 | ⟨p, hp, h1⟩
        · unfold setRange at h1
          simp only [List.mem_append] at h1
          rcases h1 with (h1 | h1) | h1
          · exact .inl (List.mem_of_mem_take h1)
          · exact .inr ⟨(i, v), by simp, h1⟩
          · exact .inl (List.mem_of_mem_drop h1)
        · exact .inr ⟨p, by simp [hp], h1⟩
theorem keysT_agg {l : List AV} {K : Nat → Prop} (h : ∀ c ∈ l, ∀ k ∈ keys1 c, K k) : ∀ k ∈ keysT (.agg l), K k := by
  intro k hk
  simp only [keysT, keys, List.mem_flatMap] at hk
  obtain ⟨c, hc, hk⟩ := hk
  exact h c hc k hk
theorem ofCells_keys {ag : Bool} {l : List AV} {v : AV} {K : Nat → Prop} (h : (ofCells ag l).run = some v) (hl : ∀ c ∈ l, ∀ k ∈ keys1 c, K k) (hf : ∀ c ∈ l, ∀ k ∈ keysT c, K k) : ∀ k ∈ keysT v, K k := by
  unfold ofCells at h
  split at h
  · rw [← Tr.run_ret h]; exact keysT_agg hl
  · rw [← Tr.run_ret h]; exact hf _ (by simp)
  · exact (Tr.run_fail h).elim
theorem keysT_sub1 {w : World} {st : Stab} {ρ : Nat → Loc} {c : AV} {v : Value} (h : R1 w st ρ c v) : keysT c = keys1 c := by
  cases c <;> first | rfl | exact h.elim
theorem bnd_run {f : Operand → AV} {lo hi : Option Operand} {n : Nat} {k : Nat → Nat → Tr AV} {v : AV} (h : (bnd f lo hi n k).run = some v) : ∃ l m, (k l m).run = some v := by
  unfold bnd at h
  split at h
  · split at h
    · exact ⟨_, _, h⟩
    · exact ⟨_, _, (Tr.run_need h).2⟩
    · exact (Tr.run_fail h).elim
  · have h := (Tr.run_need h).2
    split at h
    · exact ⟨_, _, h⟩
    · exact ⟨_, _, (Tr.run_need h).2⟩
    · exact (Tr.run_fail h).elim
  · exact (Tr.run_fail h).elim
theorem arith_keys {k : IntKind} {n : Int} {v : AV} (h : (arith k n).run = some v) : keysT v = [] := by rw [arith_sound h]; rfl
theorem bin_keys {E : Env} {op : BinOp} {t : Nat} {a b v : AV} (h : (bin E op t a b).run = some v) : keysT v = [] := by
  unfold bin at h
  split at h
  · split at h
    all_goals first | exact (Tr.run_fail h).elim | skip
    all_goals first | (rw [← Tr.run_ret (Tr.run_need h).2]; rfl) | skip
    all_goals (split at h)
    all_goals first | exact (Tr.run_fail h).elim | exact arith_keys h | exact arith_keys (Tr.run_need h).2 | (rw [← Tr.run_ret h]; rfl) | (rw [← Tr.run_ret (Tr.run_need h).2]; rfl)
  · split at h
    all_goals first | exact (Tr.run_fail h).elim | (rw [← Tr.run_ret h]; rfl) | (rw [← Tr.run_ret (Tr.run_need h).2]; rfl)
  · split at h
    · simp only [cond_eq_ite] at h
      split at h
      · split at h
        all_goals first | exact (Tr.run_fail h).elim | (rw [← Tr.run_ret h]; rfl)
      · exact (Tr.run_fail h).elim
    · exact (Tr.run_fail h).elim
  · split at h
    all_goals first | exact (Tr.run_fail h).elim | (rw [← Tr.run_ret h]; rfl)
  · split at h
    all_goals first | exact (Tr.run_fail h).elim | (rw [← Tr.run_ret h]; rfl)
  · split at h
    all_goals first | exact (Tr.run_fail h).elim | (rw [← Tr.run_ret h]; rfl)
  · split at h
    all_goals first | exact (Tr.run_fail h).elim | (rw [← Tr.run_ret h]; rfl)
  · split at h
    all_goals first | exact (Tr.run_fail h).elim | (rw [← Tr.run_ret h]; rfl)
  · split at h
    all_goals first | exact (Tr.run_fail h).elim | (rw [← Tr.run_ret h]; rfl)
  · exact (Tr.run_fail h).elim
theorem un_keys {op : UnOp} {a v : AV} (h : (un op a).run = some v) : keysT v = [] := by
  unfold un at h
  split at h
  all_goals first | exact (Tr.run_fail h).elim | skip
  all_goals split at h
  all_goals first | exact (Tr.run_fail h).elim | exact arith_keys h | (rw [← Tr.run_ret h]; rfl)
theorem keysT_asProp (a : AV) : keysT (asProp a) = keysT a := by cases a <;> rfl
theorem pick_keys {c a b v : AV} {K : Nat → Prop} (ha : ∀ k ∈ keysT a, K k) (hb : ∀ k ∈ keysT b, K k) (h : (pickV c a b).run = some v) : ∀ k ∈ keysT v, K k := by
  unfold pickV at h
  split at h
  · rename_i t; cases t <;> (rw [← Tr.run_ret h]; assumption)
  · rename_i t
    cases t <;> simp [Tr.run] at h <;> rw [← h, keysT_asProp] <;> assumption
  · exact (Tr.run_fail h).elim
end Go.Eng
end
section
set_option linter.unusedVariables false
set_option linter.unusedSimpArgs false
namespace Go.Eng
open Go
section
variable {E : Env} (hE : EnvOk E) {w : World} {st : Stab} {ρ : Nat → Loc} {f : Operand → AV} {g : Operand → Value} (ho : ∀ x, R3 w st ρ (f x) (g x)) {v : AV}
theorem run_value {P : Program} {s : Sem Value} {val : Value} {w w' : World} (h : s.run P w = .ok val w') : (do pure (.value (← s)) : Sem Next).run P w = .ok (.value val) w' := by simp [h]
theorem run_unit {P : Program} {s : Sem Unit} {w w' : World} (h : s.run P w = .ok () w') : (do s; pure .skip : Sem Next).run P w = .ok .skip w' := by simp [h]
include hE ho
omit hE in
theorem maxmin_sound {b : Builtin} (hb : b = .max ∨ b = .min) {args : Array Operand} {at_ : Array TypeId} {ty : TypeId} {cs : Array Bool} (h : (pureOp E f (.call { callee := .builtin b, args, argTypes := at_ })).run = some v) :
    ∃ val, (builtin b at_ ty cs (args.map g)).run E.P w = .ok (.value val) w ∧ R3 w st ρ v val := by
  have hl : (args.map g).toList = args.toList.map g := by simp
  have key : ∀ a b, args.toList.map f = [AV.int .i64 a, AV.int .i64 b] → args.map g = #[.int .i64 a, .int .i64 b] := by
    intro a b hab
    generalize hargs : args.toList = ar at *
    rcases ar with _ | ⟨x, _ | ⟨y, _ | ⟨z, r⟩⟩⟩
    · simp at hab
    · simp at hab
    · simp only [List.map_cons, List.map_nil, List.cons.injEq, and_true] at hab
      have hx := ho x
      rw [hab.1] at hx
      have hy := ho y
      rw [hab.2] at hy
      apply Array.toList_inj.1
      rw [hl]
      simp [R3_int hx, R3_int hy]
    · simp at hab
  rcases hb with rfl | rfl <;> simp only [pureOp] at h <;> split at h
  · rename_i a b hab
    rw [key a b hab]
    refine ⟨_, run_value (run_max_int2 ..), ?_⟩
    rw [← Tr.run_ret h]
    have : (if b > a then b else a) = max a b := by simp only [Int.max_def]; split <;> split <;> omega
    rw [this]
    exact R_int ..
  · exact (Tr.run_fail h).elim
  · rename_i a b hab
    rw [key a b hab]
    refine ⟨_, run_value (run_min_int2 ..), ?_⟩
    rw [← Tr.run_ret h]
    have : (if b < a then b else a) = min a b := by simp only [Int.min_def]; split <;> split <;> omega
    rw [this]
    exact R_int ..
  · exact (Tr.run_fail h).elim
theorem pure_sound {o : Oper} (h : (pureOp E f o.op).run = some v) : ∃ val, (execOp g o).run E.P w = .ok (.value val) w ∧ R3 w st ρ v val := by
  obtain ⟨dst, op, ty, pos, aft, gd⟩ := o
  simp only at h
  have rv : ∀ {s : Sem Value}, (∃ val, s.run E.P w = .ok val w ∧ R3 w st ρ v val) → ∃ val, (do pure (.value (← s)) : Sem Next).run E.P w = .ok (.value val) w ∧ R3 w st ρ v val := fun ⟨val, h1, h2⟩ => ⟨val, run_value h1, h2⟩
  cases op <;> first | exact (Tr.run_fail h).elim | skip
  case move x => exact ⟨g x, rfl, by rw [← Tr.run_ret h]; exact ho x⟩
  case assign x => exact ⟨g x, rfl, by rw [← Tr.run_ret h]; exact ho x⟩
  case pick c a b => exact pick_sound (ho c) (ho a) (ho b) h
  case binOp op t x y d =>
    simp only [pureOp, cond_eq_ite] at h
    split at h
    · exact (Tr.run_fail h).elim
    · rename_i hc
      exact rv (bin_sound hE (ho x) (ho y) (fun h1 h2 => by revert hc; rw [h1, h2]; cases cst x || cst y <;> simp) h)
  case unOp op t x => exact rv (un_sound (ho x) h)
  case convert s t x => exact rv (convert_sound hE ho h)
  case fieldAddr t x i => exact rv (fieldAddr_sound hE ho h)
  case field t x i => exact rv (field_sound hE ho h)
  case extract x i => exact rv (extract_sound hE ho h)
  case index t x i => exact rv (index_sound hE ho h)
  case indexAddr t x i => exact rv (indexAddr_sound hE ho h)
  case slice t x lo hi mx =>
    cases mx with
    | some m => exact (Tr.run_fail h).elim
    | none => exact rv (slice_sound hE ho h)
  case build t parts => exact rv (build_sound hE ho h)
  case makeInterface t x => exact rv (makeInterface_sound hE ho h)
  case nilCheck x => exact nilCheck_sound hE ho h rfl
  case call c =>
    obtain ⟨callee, args, argTypes⟩ := c
    cases callee with
    | builtin b =>
      cases b <;> first | exact (Tr.run_fail h).elim | skip
      case len => exact rv (len_sound hE ho h)
      case max => exact maxmin_sound (cs := args.map fun | .const _ => true | _ => false) ho (.inl rfl) h
      case min => exact maxmin_sound (cs := args.map fun | .const _ => true | _ => false) ho (.inr rfl) h
    | invoke r n => exact (Tr.run_fail h).elim
    | value x => exact (Tr.run_fail h).elim
theorem sub_keys1 {x : Operand} {l : List AV} (hx : f x = .agg l) : ∀ c ∈ l, keysT c = keys1 c := by
  have hg := ho x
  rw [hx] at hg
  obtain ⟨cs, _, h1, _⟩ := R3_agg hg
  intro c hc
  obtain ⟨i, hi⟩ := List.getElem?_of_mem hc
  obtain ⟨b, _, hb⟩ := h1.get hi
  exact keysT_sub1 hb
theorem pure_keys {op : Op} (h : (pureOp E f op).run = some v) {K : Nat → Prop} (hk : ∀ x, ∀ k ∈ keysT (f x), K k) : ∀ k ∈ keysT v, K k := by
  have none_ : keysT v = [] → ∀ k ∈ keysT v, K k := fun h k hk => by rw [h] at hk; cases hk
  cases op <;> first | exact (Tr.run_fail h).elim | skip
  case move x => rw [← Tr.run_ret h]; exact hk x
  case assign x => rw [← Tr.run_ret h]; exact hk x
  case pick c a b => exact pick_keys (hk a) (hk b) h
  case binOp op t x y d =>
    simp only [pureOp, cond_eq_ite] at h
    split at h
    · exact (Tr.run_fail h).elim
    · exact none_ (bin_keys h)
  case unOp op t x => exact none_ (un_keys h)
  case convert s t x =>
    simp only [pureOp] at h
    split at h
    · refine none_ ?_; rw [← Tr.run_ret h]; rfl
    · exact (Tr.run_fail h).elim
  case fieldAddr t x i =>
    simp only [pureOp] at h
    split at h
    · rename_i hx
      simp only [cond_eq_ite] at h
      split at h
      · exact (Tr.run_fail h).elim
      · have := hk x; rw [hx] at this; rw [← Tr.run_ret h]; exact this
    · rename_i hx
      simp only [cond_eq_ite] at h
      split at h
      · exact (Tr.run_fail h).elim
      · have := hk x; rw [hx] at this; rw [← Tr.run_ret h]; exact this
    · rename_i hx
      simp only [cond_eq_ite] at h
      split at h
      · exact (Tr.run_fail h).elim
      · refine none_ ?_; rw [← Tr.run_ret h]; rfl
    · exact (Tr.run_fail h).elim
  case field t x i =>
    simp only [pureOp] at h
    split at h
    · rename_i l _ hx
      simp only [cond_eq_ite] at h
      split at h
      · exact (Tr.run_fail h).elim
      · have := hk x
        rw [hx] at this
        have hs := sub_keys1 hE ho hx
        have h0 : ∀ c ∈ l, ∀ k ∈ keys1 c, K k := fun c hc k hk => this k (by simp only [keysT, keys, List.mem_flatMap]; exact ⟨c, hc, hk⟩)
        exact ofCells_keys h (fun c hc => h0 c (List.mem_of_mem_drop (List.mem_of_mem_take hc))) (fun c hc => by rw [hs c (List.mem_of_mem_drop (List.mem_of_mem_take hc))]; exact h0 c (List.mem_of_mem_drop (List.mem_of_mem_take hc)))
    · exact (Tr.run_fail h).elim
  case extract x i =>
    simp only [pureOp] at h
    split at h
    · rename_i l hx
      split at h
      · rename_i a ha
        have hg := ho x
        rw [hx] at hg
        obtain ⟨cs, _, hl⟩ : ∃ cs : List Value, g x = .tuple cs.toArray ∧ All2 (R2 w st ρ) l cs := hg
        obtain ⟨b, _, hb⟩ := hl.get ha
        have := hk x
        rw [hx] at this
        rw [← Tr.run_ret h]
        have hkk : keysT a = keys a := by cases a <;> first | rfl | exact hb.elim
        rw [hkk]
        intro k hk
        exact this k (by simp only [keysT, List.mem_flatMap]; exact ⟨a, List.mem_of_getElem? ha, hk⟩)
      · exact (Tr.run_fail h).elim
    · exact (Tr.run_fail h).elim
  case index t x i =>
    simp only [pureOp] at h
    split at h
    · refine none_ ?_; rw [← Tr.run_ret (Tr.run_need h).2]; rfl
    · exact (Tr.run_fail h).elim
  case indexAddr t x i =>
    simp only [pureOp] at h
    split at h
    all_goals first | exact (Tr.run_fail h).elim | skip
    all_goals
      simp only [cond_eq_ite] at h
      split at h
      · refine none_ ?_; rw [← Tr.run_ret (Tr.run_need h).2]; rfl
      · exact (Tr.run_fail h).elim
  case slice t x lo hi mx =>
    cases mx with
    | some m => exact (Tr.run_fail h).elim
    | none =>
    simp only [pureOp] at h
    split at h
    · obtain ⟨l, m, h⟩ := bnd_run h; refine none_ ?_; rw [← Tr.run_ret h]; rfl
    · simp only [cond_eq_ite] at h
      split at h
      · obtain ⟨l, m, h⟩ := bnd_run h; refine none_ ?_; rw [← Tr.run_ret h]; rfl
      · exact (Tr.run_fail h).elim
    · split at h
      · simp only [cond_eq_ite] at h
        split at h
        · refine none_ ?_; rw [← Tr.run_ret h]; rfl
        · exact (Tr.run_fail h).elim
      · exact (Tr.run_fail h).elim
    · exact (Tr.run_fail h).elim
  case build t parts =>
    have key : ∀ {place : Nat → Option (Nat × Nat)} {l : List AV}, fill place (E.zero t) (parts.toList.map fun p => (p.1, f p.2)) = some l → ∀ k ∈ keysT (.agg l), K k := by
      intro place l hf
      refine keysT_agg fun c hc k hkc => ?_
      rcases fill_mem hf c hc with h1 | ⟨p, hp, h1⟩
      · rw [zero_keys hE t c h1] at hkc; cases hkc
      · simp only [List.mem_map] at hp
        obtain ⟨q, _, rfl⟩ := hp
        exact hk q.2 k (cellsOf_keys h1 hkc)
    simp only [pureOp] at h
    split at h
    · simp only [cond_eq_ite] at h
      split at h
      · split at h
        · rename_i l hf; rw [← Tr.run_ret h]; exact key hf
        · exact (Tr.run_fail h).elim
      · exact (Tr.run_fail h).elim
    · simp only [cond_eq_ite] at h
      split at h
      · split at h
        · rename_i l hf; rw [← Tr.run_ret h]; exact key hf
        · exact (Tr.run_fail h).elim
      · exact (Tr.run_fail h).elim
    · exact (Tr.run_fail h).elim
  case makeInterface t x =>
    simp only [pureOp] at h
    split at h
    · exact (Tr.run_fail h).elim
    · simp only [cond_eq_ite] at h
      split at h
      · rename_i hp
        refine none_ ?_
        rw [← Tr.run_ret h]
        exact keys1_pers hp
      · exact (Tr.run_fail h).elim
    · exact (Tr.run_fail h).elim
  case nilCheck x =>
    simp only [pureOp] at h
    have := hk x
    split at h
    all_goals first | exact (Tr.run_fail h).elim | skip
    all_goals (rename_i hx; rw [hx] at this; rw [← Tr.run_ret h]; exact this)
  case call c =>
    obtain ⟨callee, args, argTypes⟩ := c
    cases callee with
    | builtin b =>
      cases b <;> first | exact (Tr.run_fail h).elim | skip
      all_goals
        simp only [pureOp] at h
        split at h
        all_goals first | exact (Tr.run_fail h).elim | (refine none_ ?_; rw [← Tr.run_ret h]; rfl)
    | invoke r n => exact (Tr.run_fail h).elim
    | value x => exact (Tr.run_fail h).elim
end
end Go.Eng
end
section
set_option linter.unusedVariables false
set_option linter.unusedSimpArgs false
set_option linter.unusedSectionVars false
namespace Go.Eng
open Go
theorem R1_of_PV {w : World} {st : Stab} {ρ : Nat → Loc} {a : AV} {v : Value} (h : PV w st a v) : R1 w st ρ a v := by cases h <;> first | exact PV.int _ _ | exact PV.bool _ | exact PV.prop _ | exact PV.str _ | exact PV.nilS | exact PV.nilI | exact PV.nilP | exact PV.nilF | exact PV.ifS _ _ | (simp only [R1]; constructor <;> assumption)
theorem opnd_rel {X : Ctx} {S : St} {a : Act} {w : World} {st : Stab} {ρ : Nat → Loc} (h : Rel X S a w st ρ) (x : Operand) : R3 w st ρ (opnd X.E S.slot x) (a.eval x) := by
  cases x with
  | tmp t => exact h.slots t
  | const v => exact absV_rel ..
  | global g =>
    show R3 w st ρ (X.E.G g) _
    rcases h.glob g with hg | hg
    · rw [hg]; trivial
    · generalize X.E.G g = a at hg
      cases a <;> first | exact hg | cases hg
  | func f => exact ⟨[], rfl, .nil⟩
theorem opnd_keys {X : Ctx} {S : St} {a : Act} {w : World} {st : Stab} {ρ : Nat → Loc} (h : Rel X S a w st ρ) (x : Operand) : ∀ k ∈ keysT (opnd X.E S.slot x), (S.H k).isSome = true := by
  intro k hk
  cases x with
  | tmp t => exact h.kin t k hk
  | const v => rw [show opnd X.E S.slot (.const v) = absV v from rfl, keysT_absV] at hk; cases hk
  | global g =>
    rcases h.glob g with hg | hg
    · rw [show opnd X.E S.slot (.global g) = X.E.G g from rfl, hg] at hk; cases hk
    · rw [show opnd X.E S.slot (.global g) = X.E.G g from rfl] at hk
      generalize X.E.G g = a at hg hk
      cases hg <;> cases hk
  | func f => cases hk
section
variable {E : Env} (hE : EnvOk E) {w : World} {st : Stab} {ρ : Nat → Loc}
include hE
theorem load_sound {t b o : Nat} {cs : List AV} {vs : List Value} {v : AV} (hr : w.rangeAt b o vs) (hrel : All2 (R1 w st ρ) cs vs) (h1 : ∀ x ∈ vs, x.oneCell' = true)
    (hlen : vs.length = E.sz t) (h : (ofCells (E.ag t) cs).run = some v) :
    ∃ val, (Instr.loadAt t (.pointer (some ⟨b, o, none⟩))).run E.P w = .ok val w ∧ R3 w st ρ v val := by
  rcases ofCells_sound h hrel h1 with ⟨hag, hv⟩ | ⟨hag, c, r, rfl, hv⟩
  · refine ⟨_, ?_, hv⟩
    have hti : ∃ i, E.ti t = some i := by
      unfold Env.ag at hag
      split at hag
      · exact ⟨_, ‹_›⟩
      · cases hag
    obtain ⟨i, hi⟩ := hti
    obtain ⟨inf, d, q1, q2, q3, q4, q5, _⟩ := ti_parts hE.tok hi
    have hd : d.isRow = true := by
      simp only [Env.ag, hi, q5] at hag
      cases d <;> first | rfl | cases hag
    exact run_loadAt_mid w b o t vs d hr q2 hd (by rw [q1, hlen]; simp [Env.sz, hi, q3])
  · refine ⟨c, ?_, hv⟩
    have hsz : E.sz t ≠ 0 := by rw [← hlen]; simp
    obtain ⟨d, hd, hrow⟩ := ag_ok hE.tok hsz
    have hc := hr 0 c (by simp)
    have hagg : (isAgg t).run E.P w = .ok false w := by
      unfold isAgg
      rw [Sem.run_bind, run_underlying hd w]
      rw [hag] at hrow
      cases d <;> first | rfl | cases hrow
    simp only [Nat.add_zero] at hc
    simp [Instr.loadAt, Instr.sureAddr, loadVar, hagg, hc]
omit hE in
theorem vals_rel {cs : List AV} {n : Nat} {vals : Nat → Value} (hn : n ≤ cs.length) (h : ∀ j, j < cs.length → PV w st (cs.getD j .any) (vals j)) :
    All2 (R1 w st ρ) (cs.take n) ((List.range n).map vals) ∧ ∀ x ∈ (List.range n).map vals, x.oneCell' = true := by
  constructor
  · refine All2.of_get (by simp; omega) fun i a b ha hb => ?_
    simp only [List.getElem?_map, Option.map_eq_some_iff] at hb
    obtain ⟨q, hq, rfl⟩ := hb
    have hin : i < n := by
      have := (List.getElem?_eq_some_iff.1 hq).1
      simpa using this
    simp only [List.getElem?_range hin, Option.some.injEq] at hq
    subst hq
    rw [List.getElem?_take, if_pos hin] at ha
    have := h i (by omega)
    rw [List.getD_eq_getElem?_getD, ha] at this
    exact R1_of_PV this
  · intro x hx
    simp only [List.mem_map, List.mem_range] at hx
    obtain ⟨j, hj, rfl⟩ := hx
    exact (h j (by omega)).one
omit hE in
theorem vals_range {b o n : Nat} {vals : Nat → Value} (h : ∀ j, j < n → w.cell? ⟨b, o + j, none⟩ = some (vals j)) : w.rangeAt b o ((List.range n).map vals) := by
  intro j v hv
  simp only [List.getElem?_map, Option.map_eq_some_iff] at hv
  obtain ⟨q, hq, rfl⟩ := hv
  have hj : j < n := by
    have := (List.getElem?_eq_some_iff.1 hq).1
    simpa using this
  simp only [List.getElem?_range hj, Option.some.injEq] at hq
  subst hq
  exact h j hj
omit hE in
theorem range_block {b : Nat} {arr : Array Value} {t : TypeId} {fr : Nat × Nat} (hb : w.heap[b]? = some (.cells arr t fr)) (o n : Nat) : w.rangeAt b o ((arr.toList.drop o).take n) := by
  have := World.rangeAt_of_block hb o n
  rw [Array.toList_extract] at this
  rwa [List.extract_eq_take_drop, Nat.add_sub_cancel_left] at this
end
theorem there_block {w : World} {b : Nat} {arr : Array Value} {t : TypeId} (hb : w.heap[b]? = some (.cells arr t (0, 0))) {o n : Nat} (h : o + n ≤ arr.size) : w.there b o n := by
  intro j hj
  refine ⟨?_, ?_⟩
  · rw [cell_of_row w b (o + j) arr t (0, 0) hb]
    simp [show o + j < arr.size by omega]
  · simp [World.frozen?, hb]
theorem heap_setCell {w : World} {b o : Nat} {arr : Array Value} {t : TypeId} {v : Value} (hb : w.heap[b]? = some (.cells arr t (0, 0))) : (w.setCell ⟨b, o, none⟩ v).heap[b]? = some (.cells (arr.setIfInBounds o v) t (0, 0)) := by
  have hlt := (Array.getElem?_eq_some_iff.1 hb).1
  simp only [World.setCell]
  rw [Array.getElem?_modify, if_pos rfl, hb]
  rfl
theorem heap_setCell_ne {w : World} {b o k : Nat} {v : Value} (h : k ≠ b) : (w.setCell ⟨b, o, none⟩ v).heap[k]? = w.heap[k]? := by
  simp only [World.setCell]
  rw [Array.getElem?_modify, if_neg (Ne.symm h)]
structure SetTo (w w' : World) (b : Nat) (arr : Array Value) (t : TypeId) : Prop where
  blk : w'.heap[b]? = some (.cells arr t (0, 0))
  other : ∀ k, k ≠ b → w'.heap[k]? = w.heap[k]?
  size : w'.heap.size = w.heap.size
  os : w'.os = w.os
  tape : w'.tape = w.tape
  output : w'.output = w.output
theorem setCells_parts {b : Nat} {t : TypeId} : ∀ (vs : List Value) (o : Nat) (w : World) (l : List Value), w.heap[b]? = some (.cells l.toArray t (0, 0)) → o + vs.length ≤ l.length →
    SetTo w (w.setCells b o vs) b (l.take o ++ vs ++ l.drop (o + vs.length)).toArray t := by
  intro vs
  induction vs with
  | nil => intro o w l h _; exact ⟨by show w.heap[b]? = _; simpa using h, fun _ _ => rfl, rfl, rfl, rfl, rfl⟩
  | cons v vs ih =>
    intro o w l h hl
    simp only [List.length_cons] at hl
    have h1 := heap_setCell (o := o) (v := v) h
    rw [List.setIfInBounds_toArray] at h1
    have := ih (o + 1) _ (l.set o v) h1 (by simp; omega)
    refine ⟨?_, fun k hk => (this.other k hk).trans (heap_setCell_ne hk), this.size.trans (by simp [World.setCell]), this.os, this.tape, this.output⟩
    rw [World.setCells, this.blk]
    congr 2
    have e1 : (l.set o v).take (o + 1) = l.take o ++ [v] := by
      rw [List.take_add_one, List.take_set_of_le (Nat.le_refl _)]
      simp [show o < l.length by omega]
    have e2 : (l.set o v).drop (o + 1 + vs.length) = l.drop (o + (v :: vs).length) := by
      rw [List.drop_set_of_lt (by omega)]
      congr 1
      simp only [List.length_cons]; omega
    rw [e1, e2]
    simp
theorem store_run {E : Env} (hE : EnvOk E) {w : World} {t b o : Nat} {arr : Array Value} {te : TypeId} {x : Value} (hb : w.heap[b]? = some (.cells arr te (0, 0)))
    (hsz : E.sz t ≠ 0) (hx : x.cells.size = E.sz t) (hle : o + E.sz t ≤ arr.size) (h1 : ∀ y ∈ x.cells.toList, y.oneCell' = true) :
    ∃ w', (Instr.storeAt t (.pointer (some ⟨b, o, none⟩)) x).run E.P w = .ok () w' ∧ SetTo w w' b (arr.toList.take o ++ x.cells.toList ++ arr.toList.drop (o + E.sz t)).toArray te := by
  obtain ⟨inf, hi, hs⟩ := sz_ok hE.tok rfl hsz
  have hth := there_block (o := o) (n := x.cells.size) hb (by omega)
  have h2 : x.cells.all (·.oneCell') = true := Array.all_eq_true_iff_forall_mem.2 fun y hy => h1 y (by simpa using hy)
  have hr := run_storeAt_mid (P := E.P) w b o t x.cells hth (by rw [hi]; simp; omega) h2
  have hr' : (Instr.storeAt t (.pointer (some ⟨b, o, none⟩)) x).run E.P w = .ok () (w.setCells b o x.cells.toList) := by
    rw [← hr]
    rfl
  refine ⟨_, hr', ?_⟩
  have := setCells_parts (b := b) (t := te) x.cells.toList o w arr.toList (by simpa using hb) (by simp; omega)
  simpa [hx] using this
theorem blkOf_lt {w : World} {st : Stab} {ρ : Nat → Loc} {b : Blk} {l : Loc} {x : Nat} (h : HB w st ρ b l) (hx : blkOf (some b) l = some x) : x < w.heap.size := by
  cases b with
  | dead => cases hx
  | box cs fz =>
    cases l with
    | rowv v => cases hx
    | blk b =>
      obtain ⟨arr, t, h1, _⟩ := h
      cases hx
      exact (Array.getElem?_eq_some_iff.1 h1).1
  | full e sz els =>
    cases l with
    | blk b => cases hx
    | rowv v =>
      obtain ⟨g, arr, rfl, h1, _⟩ := h
      cases hx
      exact (Array.getElem?_eq_some_iff.1 h1).1
  | row e sz els pin =>
    cases l with
    | blk b => cases hx
    | rowv v =>
      obtain ⟨vals, h1, _⟩ := h
      exact (h1.lt x hx).2
theorem Rel.write {X : Ctx} {S : St} {a : Act} {w : World} {st : Stab} {ρ : Nat → Loc} (h : Rel X S a w st ρ) {k b : Nat} {B B' : Blk} {w' : World} (hk : S.H k = some B) (hb : blkOf (some B) (ρ k) = some b)
    (hshape : ∀ l, blkOf (some B') l = blkOf (some B) l) (hos : w'.os = w.os) (htape : w'.tape = w.tape) (hout : w'.output = w.output) (hsize : w'.heap.size = w.heap.size)
    (hother : ∀ x, x ≠ b → w'.heap[x]? = w.heap[x]?) (hkeep : Keep st w w') (hHB : HB w' st ρ B' (ρ k))
    (hkeys : ∀ cs fz, B' = .box cs fz → ∀ c ∈ cs, ∀ k' ∈ keys1 c, (S.H k').isSome = true) (d : Option Nat) (v : AV) (val : Value)
    (hv : ∀ x, d = some x → R3 w' st ρ v val) (hvk : ∀ x, d = some x → ∀ k ∈ keysT v, (S.H k).isSome = true) (hd : ∀ x, d = some x → x < X.N) :
    Rel X ⟨putO S.slot d v, upd S.H k (some B')⟩ (a.put d val) w' st ρ := by
  have hbo : ∀ j, blkOf (upd S.H k (some B') j) (ρ j) = blkOf (S.H j) (ρ j) := fun j => by
    by_cases hj : j = k
    · subst hj; rw [upd_same, hk]; exact hshape _
    · rw [upd_other _ _ hj]
  have hdom : ∀ j, (S.H j).isSome = true → (upd S.H k (some B') j).isSome = true := fun j hj => by
    by_cases hjk : j = k
    · subst hjk; rw [upd_same]; rfl
    · rw [upd_other _ _ hjk]; exact hj
  refine h.step d v val hos htape hout (by omega) (fun x hx hn => hother x fun e => hn k (by rw [hk, hb, e])) hkeep (fun _ _ h => h) (fun _ _ _ _ h => h) (h.sta.keep (by omega)) (fun _ _ => rfl) ?_ (fun j x hj => h.mine j x (by rw [← hbo]; exact hj))
    (fun j j' x hj hj' => h.apart j j' x (by rw [← hbo]; exact hj) (by rw [← hbo]; exact hj')) hdom ?_ hv (fun x hx k' hk' => hdom k' (hvk x hx k' hk')) hd
  · intro j B1 hj
    by_cases hjk : j = k
    · subst hjk; rw [upd_same] at hj; cases hj; exact hHB
    · rw [upd_other _ _ hjk] at hj
      refine (h.heap j B1 hj).keep (fun x hx => ⟨hother x fun e => ?_, fun o ho => ho⟩) (fun _ _ h => h) hkeep (fun _ _ _ _ _ _ _ => rfl)
      subst e
      exact hjk (h.apart j k x (by rw [hj]; exact hx) (by rw [hk]; exact hb))
  · intro j cs fz hj c hc k' hk'
    by_cases hjk : j = k
    · subst hjk; rw [upd_same] at hj; cases hj; exact hdom k' (hkeys cs fz rfl c hc k' hk')
    · rw [upd_other _ _ hjk] at hj; exact hdom k' (h.kinH j cs fz hj c hc k' hk')
theorem Rel.fresh' {X : Ctx} {S : St} {a : Act} {w : World} {st : Stab} {ρ : Nat → Loc} (h : Rel X S a w st ρ) (dst : Option Nat) {d : Nat} {B : Blk} {l : Loc} {w' : World} {st' : Stab} (hsub : ∀ b o, st b o → st' b o) (hnew : ∀ b o, b < w.heap.size → st' b o → st b o) (hsta : Sta w' st') (hfree : S.H d = none) (hev : Ev (fun _ => False) w w')
    (hl : ∀ x, blkOf (some B) l = some x → w.heap.size ≤ x) (hHB : HB w' st' (upd ρ d l) B l)
    (hkeys : ∀ cs fz, B = .box cs fz → ∀ c ∈ cs, ∀ k' ∈ keys1 c, (S.H k').isSome = true) (v : AV) (val : Value)
    (hv : R3 w' st' (upd ρ d l) v val) (hvk : ∀ k ∈ keysT v, k = d ∨ (S.H k).isSome = true) (hd : ∀ x, dst = some x → x < X.N) :
    Rel X ⟨putO S.slot dst v, upd S.H d (some B)⟩ (a.put dst val) w' st' (upd ρ d l) := by
  have hne : ∀ k, (S.H k).isSome = true → k ≠ d := fun k hk e => by subst e; rw [hfree] at hk; cases hk
  have hdom : ∀ j, (S.H j).isSome = true → (upd S.H d (some B) j).isSome = true := fun j hj => by rw [upd_other _ _ (hne j hj)]; exact hj
  have hkeep : Keep st w w' := fun b o hs => cell_of_block (hev.block b (h.sta.lt hs) (fun h => h))
  have hbo : ∀ j x, blkOf (upd S.H d (some B) j) (upd ρ d l j) = some x → (j = d ∧ w.heap.size ≤ x) ∨ (j ≠ d ∧ blkOf (S.H j) (ρ j) = some x ∧ x < w.heap.size) := by
    intro j x hj
    by_cases hjd : j = d
    · subst hjd; rw [upd_same, upd_same] at hj; exact .inl ⟨rfl, hl x hj⟩
    · rw [upd_other _ _ hjd, upd_other _ _ hjd] at hj
      refine .inr ⟨hjd, hj, ?_⟩
      cases hB : S.H j with
      | none => rw [hB] at hj; cases hl : ρ j <;> rw [hl] at hj <;> cases hj
      | some B1 => rw [hB] at hj; exact blkOf_lt (h.heap j B1 hB) hj
  refine h.step dst v val hev.os hev.tape hev.output hev.size (fun b hb _ => hev.block b hb (fun h => h)) hkeep hsub (fun b o hb _ ho => hnew b o hb ho) hsta
    (fun k hk => upd_other _ _ (hne k hk)) ?_ ?_ ?_ hdom ?_ (fun _ _ => hv) ?_ hd
  · intro j B1 hj
    by_cases hjd : j = d
    · subst hjd; rw [upd_same] at hj ⊢; cases hj; exact hHB
    · rw [upd_other _ _ hjd] at hj ⊢
      have h0 := h.heap j B1 hj
      exact h0.keep (fun x hx => ⟨hev.block x (blkOf_lt h0 hx) (fun h => h), fun o ho => hnew x o (blkOf_lt h0 hx) ho⟩) hsub hkeep
        (fun cs fz hB c hc k' hk' => by subst hB; exact upd_other _ _ (hne k' (h.kinH j cs fz hj c hc k' hk')))
  · intro j x hj
    rcases hbo j x hj with ⟨_, hx⟩ | ⟨_, hx, _⟩
    · exact .inl (Nat.le_trans h.ev.size hx)
    · exact h.mine j x hx
  · intro j j' x hj hj'
    rcases hbo j x hj with ⟨h1, h2⟩ | ⟨h1, h2, h3⟩ <;> rcases hbo j' x hj' with ⟨g1, g2⟩ | ⟨g1, g2, g3⟩
    · rw [h1, g1]
    · omega
    · omega
    · exact h.apart j j' x h2 g2
  · intro j cs fz hj c hc k' hk'
    by_cases hjd : j = d
    · subst hjd; rw [upd_same] at hj; cases hj; exact hdom k' (hkeys cs fz rfl c hc k' hk')
    · rw [upd_other _ _ hjd] at hj; exact hdom k' (h.kinH j cs fz hj c hc k' hk')
  · intro x hx k hk
    rcases hvk k hk with rfl | hk'
    · rw [upd_same]; rfl
    · exact hdom k hk'
theorem Rel.fresh {X : Ctx} {S : St} {a : Act} {w : World} {st : Stab} {ρ : Nat → Loc} (h : Rel X S a w st ρ) (dst : Option Nat) {d : Nat} {B : Blk} {l : Loc} {w' : World} (hfree : S.H d = none) (hev : Ev (fun _ => False) w w')
    (hl : ∀ x, blkOf (some B) l = some x → w.heap.size ≤ x) (hHB : HB w' st (upd ρ d l) B l)
    (hkeys : ∀ cs fz, B = .box cs fz → ∀ c ∈ cs, ∀ k' ∈ keys1 c, (S.H k').isSome = true) (v : AV) (val : Value)
    (hv : R3 w' st (upd ρ d l) v val) (hvk : ∀ k ∈ keysT v, k = d ∨ (S.H k).isSome = true) (hd : ∀ x, dst = some x → x < X.N) :
    Rel X ⟨putO S.slot dst v, upd S.H d (some B)⟩ (a.put dst val) w' st (upd ρ d l) :=
  h.fresh' dst (fun _ _ h => h) (fun _ _ _ h => h) (h.sta.keep hev.size) hfree hev hl hHB hkeys v val hv hvk hd
end Go.Eng
end
section
set_option linter.unusedVariables false
set_option linter.unusedSimpArgs false
set_option linter.unusedSectionVars false
namespace Go.Eng
open Go
def frz : Blk → Blk
  | .box cs _ => .box cs true
  | .row e sz els _ => .row e sz els true
  | .full e sz els => .full e sz els
  | .dead => .dead
def cellsN : Blk → Nat
  | .box cs _ => cs.length
  | .row e sz els _ => els.length * sz
  | .full _ _ _ => 0
  | .dead => 0
def frzH (H : Nat → Option Blk) (F : Nat → Bool) : Nat → Option Blk := fun k => if F k = true then (H k).map frz else H k
def stF (st : Stab) (H : Nat → Option Blk) (ρ : Nat → Loc) (F : Nat → Bool) : Stab := fun b o => st b o ∨ ∃ k B, F k = true ∧ H k = some B ∧ blkOf (some B) (ρ k) = some b ∧ o < cellsN B
theorem blkOf_frz (B : Blk) (l : Loc) : blkOf (some (frz B)) l = blkOf (some B) l := by cases B <;> cases l <;> rfl
theorem frzH_some {H : Nat → Option Blk} {F : Nat → Bool} {k : Nat} {B : Blk} (h : frzH H F k = some B) : ∃ B0, H k = some B0 ∧ (B = B0 ∨ (F k = true ∧ B = frz B0)) ∧ (F k = true → B = frz B0) := by
  unfold frzH at h
  split at h
  · rename_i hf
    cases hk : H k with
    | none => rw [hk] at h; cases h
    | some B0 => rw [hk] at h; cases h; exact ⟨B0, rfl, .inr ⟨hf, rfl⟩, fun _ => rfl⟩
  · rename_i hf; exact ⟨B, h, .inl rfl, fun h => absurd h hf⟩
theorem blkOf_frzH (H : Nat → Option Blk) (F : Nat → Bool) (l : Loc) (k : Nat) : blkOf (frzH H F k) l = blkOf (H k) l := by
  unfold frzH
  split
  · cases H k with
    | none => rfl
    | some B => exact blkOf_frz B l
  · rfl
theorem HB.own_cells {w : World} {st : Stab} {ρ : Nat → Loc} {B : Blk} {l : Loc} {b : Nat} (h : HB w st ρ B l) (hb : blkOf (some B) l = some b) : ∀ o, o < cellsN B → ∃ v, w.cell? ⟨b, o, none⟩ = some v := by
  intro o ho
  cases B with
  | dead => cases hb
  | full e sz els => simp [cellsN] at ho
  | box cs fz =>
    cases l with
    | rowv v => cases hb
    | blk b' =>
      cases hb
      obtain ⟨arr, t, h1, h2, _⟩ := h
      have := h2.length
      rw [cell_of_row w b o arr t (0, 0) h1]
      simp only [cellsN] at ho
      exact ⟨arr[o]'(by simp at this; omega), by simp [show o < arr.size by simp at this; omega]⟩
  | row e sz els p =>
    cases l with
    | blk b' => cases hb
    | rowv v =>
      obtain ⟨vals, ⟨h1, h2⟩, _⟩ := h
      rcases h2 with ⟨rfl, h3⟩ | ⟨g, cap, cur, rfl, h3, h4, h5, h6, h7, h8⟩
      · cases hb
      · cases hb
        simp only [cellsN] at ho
        have : els.length * sz ≤ cap * sz := Nat.mul_le_mul_right _ h5
        rw [cell_of_row w g o cur e (0, 0) h4]
        exact ⟨cur[o]'(by omega), by simp [show o < cur.size by omega]⟩
theorem Rel.freeze {X : Ctx} {S : St} {a : Act} {w : World} {st : Stab} {ρ : Nat → Loc} (h : Rel X S a w st ρ) (F : Nat → Bool) : Rel X ⟨S.slot, frzH S.H F⟩ a w (stF st S.H ρ F) ρ := by
  have hsub : ∀ b o, st b o → stF st S.H ρ F b o := fun b o h => .inl h
  have hdom : ∀ k, (S.H k).isSome = true → (frzH S.H F k).isSome = true := fun k hk => by
    unfold frzH; split
    · simpa using hk
    · exact hk
  have own : ∀ j B b o, S.H j = some B → blkOf (some B) (ρ j) = some b → stF st S.H ρ F b o → st b o ∨ (F j = true ∧ o < cellsN B) := by
    intro j B b o hj hb ho
    rcases ho with ho | ⟨k, B', hf, hk, hb', ho⟩
    · exact .inl ho
    · have : k = j := h.apart k j b (by rw [hk]; exact hb') (by rw [hj]; exact hb)
      subst this
      rw [hk] at hj; cases hj
      exact .inr ⟨hf, ho⟩
  refine h.step none .any undef rfl rfl rfl (Nat.le_refl _) (fun _ _ _ => rfl) (Keep.refl _ _) hsub ?_ ?_ (fun _ _ => rfl) ?_ (fun k x hk => h.mine k x (by rw [← blkOf_frzH]; exact hk))
    (fun k k' x hk hk' => h.apart k k' x (by rw [← blkOf_frzH]; exact hk) (by rw [← blkOf_frzH]; exact hk')) hdom ?_ (fun _ h => by cases h) (fun _ h => by cases h) (fun _ h => by cases h)
  · rintro b o hb hn (ho | ⟨k, B, _, hk, hb', _⟩)
    · exact ho
    · exact absurd (by rw [hk]; exact hb') (hn k)
  · rintro b o (ho | ⟨k, B, _, hk, hb', ho⟩)
    · exact h.sta b o ho
    · exact (by obtain ⟨v, hv⟩ := (h.heap k B hk).own_cells hb' o ho; exact World.block_lt_of_cell? _ _ hv)
  · intro k B hk
    obtain ⟨B0, hk0, hB, hB'⟩ := frzH_some hk
    have h0 := h.heap k B0 hk0
    by_cases hf : F k = true
    · rw [hB' hf]
      cases B0 with
      | dead => trivial
      | full e sz els =>
        refine h0.keep (fun x hx => ⟨rfl, fun o ho => ?_⟩) hsub (Keep.refl _ _) (fun _ _ h => by cases h)
        rcases own k _ x o hk0 hx ho with ho | ⟨_, ho⟩
        · exact ho
        · simp [cellsN] at ho
      | box cs fz =>
        cases hl : ρ k with
        | rowv v => rw [hl] at h0; exact h0
        | blk b =>
          rw [hl] at h0
          obtain ⟨arr, t, h1, h2, h3, h4⟩ := h0
          exact ⟨arr, t, h1, h2.mono fun _ _ => R1.mono hsub (Keep.refl _ _), h3, fun h => by cases h⟩
      | row e sz els p =>
        cases hl : ρ k with
        | blk b => rw [hl] at h0; exact h0
        | rowv v =>
          rw [hl] at h0
          obtain ⟨vals, h1, h2, h3, h4⟩ := h0
          refine ⟨vals, h1, h2.mono fun _ _ h => h.mono hsub (Keep.refl _ _), h3, fun g hg o ho => ⟨rfl, ?_⟩⟩
          rcases own k _ g o hk0 (by rw [hl]; exact hg) ho with ho | ⟨_, ho⟩
          · exact (h4 g hg o ho).2
          · exact ho
    · obtain rfl : B = B0 := by
        rcases hB with hB | ⟨hf', _⟩
        · exact hB
        · exact absurd hf' hf
      refine h0.keep (fun x hx => ⟨rfl, fun o ho => ?_⟩) hsub (Keep.refl _ _) (fun _ _ _ _ _ _ _ => rfl)
      rcases own k _ x o hk0 hx ho with ho | ⟨hf', _⟩
      · exact ho
      · exact absurd hf' hf
  · intro k cs fz hk c hc k' hk'
    obtain ⟨B0, hk0, hB, hB'⟩ := frzH_some hk
    have : ∃ fz0, B0 = .box cs fz0 := by
      rcases hB with rfl | ⟨_, hB⟩
      · exact ⟨_, rfl⟩
      · cases B0 <;> simp [frz] at hB
        exact ⟨_, by rw [hB.1]⟩
    obtain ⟨fz0, rfl⟩ := this
    exact hdom k' (h.kinH k cs fz0 hk0 c hc k' hk')
theorem flatten_get {α : Type} {sz : Nat} : ∀ {els : List (List α)} (i j : Nat), (∀ x ∈ els, x.length = sz) → i < els.length → j < sz → els.flatten[i * sz + j]? = (els.getD i [])[j]? := by
  intro els
  induction els with
  | nil => intro i j _ hi _; cases hi
  | cons a els ih =>
    intro i j hl hi hj
    have ha := hl a (by simp)
    cases i with
    | zero => simp [List.getElem?_append_left (show j < a.length by omega)]
    | succ i =>
      simp only [List.flatten_cons]
      rw [List.getElem?_append_right (by rw [ha, Nat.add_mul]; omega)]
      have := ih i j (fun x hx => hl x (by simp [hx])) (by simpa using hi) hj
      rw [show (i + 1) * sz + j - a.length = i * sz + j by rw [ha, Nat.add_mul]; omega, this]
      simp
theorem flatten_len {α : Type} {sz : Nat} : ∀ {els : List (List α)}, (∀ x ∈ els, x.length = sz) → els.flatten.length = els.length * sz := by
  intro els
  induction els with
  | nil => intro _; simp
  | cons a els ih =>
    intro hl
    simp only [List.flatten_cons, List.length_append, List.length_cons]
    rw [ih fun x hx => hl x (by simp [hx]), hl a (by simp), Nat.add_mul]; omega
theorem row_PV {w : World} {st st' : Stab} {ρ : Nat → Loc} {e sz : Nat} {els : List (List AV)} {p : Bool} {v : Value} (h : HB w st ρ (.row e sz els p) (.rowv v)) (hsub : ∀ b o, st b o → st' b o)
    (hst : ∀ g, v.ownBlock = some g → ∀ o, o < els.length * sz → st' g o) : PV w st' (asSl sz els) v := by
  obtain ⟨vals, ⟨h1, h2⟩, h3, h4, _⟩ := h
  have hL := flatten_len h4
  rcases h2 with ⟨rfl, h5⟩ | ⟨g, cap, cur, rfl, h5, h6, h7, h8, h9, h10⟩
  · have : els = [] := List.length_eq_zero_iff.1 h5
    subst this
    exact PV.sl false sz 0 0 _ none 0 0 (fun _ _ => undef) (by omega) (by simp) (by simp [maxLen]) (by omega) (fun i hi => by omega) (fun i j hi => by omega) (fun i j hi => by omega) (fun i j hi => by omega)
  · have hin : ∀ i j, i < els.length → j < sz → i * sz + j < els.length * sz := fun i j hi hj => by
      have : (i + 1) * sz ≤ els.length * sz := Nat.mul_le_mul_right _ hi
      rw [Nat.add_mul] at this; omega
    have hcell : ∀ i j, i < els.length → j < sz → w.cell? ⟨g, 0 + i * sz + j, none⟩ = some (vals.getD (i * sz + j) undef) := fun i j hi hj => by
      have hlt := hin i j hi hj
      rw [cell_of_row w g _ cur e (0, 0) h6, Nat.zero_add, ← h10, List.getD_eq_getElem?_getD, List.getElem?_take, if_pos hlt]
      have hcs : i * sz + j < cur.size := by
        have : els.length * sz ≤ cap * sz := Nat.mul_le_mul_right _ h7
        omega
      simp [hcs]
    refine PV.sl false sz els.length cap _ (some ⟨g, 0, none⟩) g 0 (fun i j => vals.getD (i * sz + j) undef) h7 (by simp) h8 (fun _ => rfl) (fun i hi => ?_) hcell (fun i j hi hj => ?_) (fun i j hi hj => ?_)
    · have : els.getD i [] ∈ els := by rw [List.getD_eq_getElem?_getD, List.getElem?_eq_getElem hi]; exact List.getElem_mem hi
      exact h4 _ this
    · rw [Nat.zero_add]; exact hst g rfl _ (hin i j hi hj)
    · have hlt := hin i j hi hj
      have h0 := flatten_get i j h4 hi hj
      have hx : els.flatten[i * sz + j]? = some (els.flatten[i * sz + j]'(by omega)) := List.getElem?_eq_getElem (by omega)
      obtain ⟨b, hb, hr⟩ := h3.get hx
      rw [h0] at hx
      simp only [List.getD_eq_getElem?_getD] at hx ⊢
      rw [hx, hb]
      exact hr.mono hsub (Keep.refl _ _)
def StepTo (X : Ctx) (o : Oper) (a : Act) (w : World) (S' : St) : Prop := ∀ next Q, (∀ a' w' st' ρ', Rel X S' a' w' st' ρ' → next a' w') → o.wp X.E.P a w next Q
theorem StepTo.value {X : Ctx} {o : Oper} {a : Act} {w w' : World} {S' : St} {val : Value} {st' : Stab} {ρ' : Nat → Loc} (hrun : (execOp a.eval o).run X.E.P w = .ok (.value val) w') (hr : Rel X S' (a.put o.dst val) w' st' ρ') : StepTo X o a w S' := by
  intro next Q hn
  unfold Oper.wp
  rw [hrun]
  exact hn _ _ _ _ hr
theorem StepTo.skip {X : Ctx} {o : Oper} {a : Act} {w w' : World} {S' : St} {st' : Stab} {ρ' : Nat → Loc} (hrun : (execOp a.eval o).run X.E.P w = .ok .skip w') (hr : Rel X S' (a.put o.dst undef) w' st' ρ') : StepTo X o a w S' := by
  intro next Q hn
  unfold Oper.wp
  rw [hrun]
  exact hn _ _ _ _ hr
end Go.Eng
end
section
set_option linter.unusedVariables false
set_option linter.unusedSimpArgs false
set_option linter.unusedSectionVars false
namespace Go.Eng
open Go
theorem All2.setRange {R : AV → Value → Prop} {cs ys : List AV} {vs zs : List Value} (h : All2 R cs vs) (hy : All2 R ys zs) (o : Nat) : All2 R (setRange cs o ys) (vs.take o ++ zs ++ vs.drop (o + zs.length)) := by
  unfold Go.Eng.setRange
  rw [hy.length]
  exact ((h.take o).append hy).append (h.drop _)
theorem R1_pers_PV {w : World} {st : Stab} {ρ : Nat → Loc} {a : AV} {v : Value} (hp : pers1 a = true) (h : R1 w st ρ a v) : PV w st a v := (R1_pers hp).1 h
theorem PV_keys {w : World} {st : Stab} {a : AV} {v : Value} (h : PV w st a v) : keys1 a = [] := by cases a <;> first | rfl | cases h
theorem flatten_part {α : Type} {sz : Nat} : ∀ {els : List (List α)} (i : Nat), (∀ x ∈ els, x.length = sz) → i < els.length → (els.flatten.drop (i * sz)).take sz = els.getD i [] := by
  intro els i hl hi
  have hL := flatten_len hl
  have hlen : (els.getD i []).length = sz := by
    have : els.getD i [] ∈ els := by rw [List.getD_eq_getElem?_getD, List.getElem?_eq_getElem hi]; exact List.getElem_mem hi
    exact hl _ this
  have : (i + 1) * sz ≤ els.length * sz := Nat.mul_le_mul_right _ hi
  rw [Nat.add_mul] at this
  apply List.ext_getElem?
  intro j
  by_cases hj : j < sz
  · rw [List.getElem?_take, if_pos hj, List.getElem?_drop, flatten_get i j hl hi hj]
  · rw [List.getElem?_eq_none (by simp; omega), List.getElem?_eq_none (by omega)]
theorem rangeAt_sub {w : World} {b o : Nat} {vs : List Value} (h : w.rangeAt b o vs) (k n : Nat) : w.rangeAt b (o + k) ((vs.drop k).take n) := by
  intro j v hv
  rw [List.getElem?_take] at hv
  split at hv
  · rw [List.getElem?_drop] at hv
    rw [Nat.add_assoc]
    exact h _ _ hv
  · cases hv
theorem row_elem {w : World} {st : Stab} {ρ : Nat → Loc} {e sz : Nat} {els : List (List AV)} {p : Bool} {v : Value} (h : HB w st ρ (.row e sz els p) (.rowv v)) {i : Nat} (hi : i < els.length) :
    ∃ g c vs, v = .slice (some ⟨g, 0, none⟩) els.length c ∧ All2 (PV w st) (els.getD i []) vs ∧ vs.length = sz ∧ w.rangeAt g (i * sz) vs := by
  obtain ⟨vals, ⟨h1, h2⟩, h3, h4, _⟩ := h
  rcases h2 with ⟨rfl, h5⟩ | ⟨g, cap, cur, rfl, h5, h6, h7, h8, h9, h10⟩
  · omega
  · have hr := (h3.drop (i * sz)).take sz
    rw [flatten_part i h4 hi] at hr
    have : (i + 1) * sz ≤ els.length * sz := Nat.mul_le_mul_right _ hi
    rw [Nat.add_mul] at this
    refine ⟨g, cap, _, rfl, hr, by simp; omega, ?_⟩
    have := rangeAt_sub (range_block (w := w) h6 0 (els.length * sz)) (i * sz) sz
    rw [List.drop_zero, Nat.zero_add, h10] at this
    exact this
section
variable {X : Ctx} (hE : EnvOk X.E) {S : St} {a : Act} {w : World} {st : Stab} {ρ : Nat → Loc} (h : Rel X S a w st ρ) {o : Oper} (hd : ∀ d, o.dst = some d → d < X.N) {kd : Nat} {out : Out}
include hE h hd
theorem pure_step {op : Op} (hop : o.op = op) (hr : ((pureOp X.E (opnd X.E S.slot) op).bind fun v => .ret ⟨v, [], []⟩ : Tr Out).run = some out) : StepTo X o a w ⟨putO S.slot o.dst out.v, applyW S.H out.w⟩ := by
  subst hop
  obtain ⟨v, hv, h2⟩ := Tr.run_bind_some hr
  obtain rfl := Tr.run_ret h2
  obtain ⟨val, h1, h2⟩ := pure_sound hE (fun x => opnd_rel h x) hv
  exact .value h1 (h.put o.dst v val (fun _ _ => h2) (fun _ _ => pure_keys hE (fun x => opnd_rel h x) hv (fun x => opnd_keys h x)) hd)
theorem load_step {t b off : Nat} {x : Operand} {cs : List AV} {vs : List Value} (hop : o.op = .load t x) (hx : a.eval x = .pointer (some ⟨b, off, none⟩)) (hr : w.rangeAt b off vs) (hrel : All2 (R1 w st ρ) cs vs) (h1 : ∀ x ∈ vs, x.oneCell' = true)
    (hlen : vs.length = X.E.sz t) (hk : ∀ c ∈ cs, ∀ k ∈ keys1 c, (S.H k).isSome = true) {v : AV} (hv : (ofCells (X.E.ag t) cs).run = some v) : StepTo X o a w ⟨putO S.slot o.dst v, S.H⟩ := by
  obtain ⟨val, h2, h3⟩ := load_sound hE hr hrel h1 hlen hv
  refine .value (val := val) (w' := w) ?_ (h.put o.dst v val (fun _ _ => h3) (fun _ _ => ofCells_keys hv hk fun c hc k hkc => ?_) hd)
  · simp only [execOp, hop, hx]; exact run_value h2
  · obtain ⟨i, hi⟩ := List.getElem?_of_mem hc
    obtain ⟨b, _, hb⟩ := hrel.get hi
    rw [keysT_sub1 hb] at hkc
    exact hk c hc k hkc
theorem load_mem {t : Nat} {x : Operand} (hop : o.op = .load t x) (hr : (memOp X.E S.H (opnd X.E S.slot) kd (.load t x)).run = some out) : StepTo X o a w ⟨putO S.slot o.dst out.v, applyW S.H out.w⟩ := by
  have hx := opnd_rel h x
  simp only [memOp] at hr
  split at hr
  · rename_i cs hcs
    rw [hcs] at hx
    obtain ⟨b, off, vals, hv, q1, q2, q3⟩ := R3_rd hx
    simp only [cond_eq_ite] at hr
    split at hr
    · rename_i hle
      have hle := Nat.le_of_ble_eq_true hle
      obtain ⟨v, hv2, h2⟩ := Tr.run_bind_some hr
      obtain rfl := Tr.run_ret h2
      obtain ⟨r1, r2⟩ := vals_rel (ρ := ρ) hle q3
      refine load_step hE h hd hop hv (vals_range fun j hj => q1 j (by omega)) r1 r2 (by simp) (fun c hc k hk => ?_) hv2
      exfalso
      obtain ⟨i, hi⟩ := List.getElem?_of_mem (List.mem_of_mem_take hc)
      have := q3 i (List.getElem?_eq_some_iff.1 hi).1
      rw [List.getD_eq_getElem?_getD, hi] at this
      simp only [Option.getD_some] at this
      rw [PV_keys this] at hk
      cases hk
    · exact (Tr.run_fail hr).elim
  · rename_i k off hk
    rw [hk] at hx
    obtain ⟨b, hb, hv⟩ := R3_ptr hx
    split at hr
    · rename_i cs fz hH
      simp only [cond_eq_ite] at hr
      split at hr
      · rename_i hle
        have hle := Nat.le_of_ble_eq_true hle
        obtain ⟨v, hv2, h2⟩ := Tr.run_bind_some hr
        obtain rfl := Tr.run_ret h2
        have hB := h.heap k _ hH
        rw [hb] at hB
        obtain ⟨arr, te, h1, h2, h3, h4⟩ := hB
        have hl := h2.length
        refine load_step hE h hd hop hv (range_block h1 off (X.E.sz t)) ((h2.drop off).take _) (fun y hy => h3 y (List.mem_of_mem_drop (List.mem_of_mem_take hy))) (by simp at hl ⊢; omega) (fun c hc k' hk' => h.kinH k cs fz hH c (List.mem_of_mem_drop (List.mem_of_mem_take hc)) k' hk') hv2
      · exact (Tr.run_fail hr).elim
    · exact (Tr.run_fail hr).elim
  · rename_i k sz i off hk
    rw [hk] at hx
    obtain ⟨g, n, c, hb, hv⟩ := R3_rp hx
    split at hr
    · rename_i e sz' els p hH
      simp only [cond_eq_ite] at hr
      split at hr
      · rename_i hc
        simp only [Bool.and_eq_true] at hc
        obtain rfl := beq_true hc.1
        have hle := Nat.le_of_ble_eq_true hc.2
        obtain ⟨hlt, hr⟩ := Tr.run_need hr
        obtain ⟨hlk, hr⟩ := Tr.run_need hr
        rw [hlk] at hr
        obtain ⟨v, hv2, h2⟩ := Tr.run_bind_some hr
        obtain rfl := Tr.run_ret h2
        have hB := h.heap k _ hH
        rw [hb] at hB
        obtain ⟨g', c', vs, e1, e2, e3, e4⟩ := row_elem hB hlt
        cases e1
        have e5 : All2 (R1 w st ρ) (els.getD i []) vs := e2.mono fun _ _ h => R1_of_PV h
        have e6 := (e2.drop off).take (X.E.sz t)
        refine load_step hE h hd hop hv (rangeAt_sub e4 off (X.E.sz t)) ((e5.drop off).take _) (fun y hy => ?_) (by simp; omega) (fun c hc k' hk' => ?_) hv2
        · obtain ⟨j, hj⟩ := List.getElem?_of_mem hy
          obtain ⟨b, _, hb⟩ := e6.get' hj
          exact hb.one
        · obtain ⟨j, hj⟩ := List.getElem?_of_mem hc
          obtain ⟨b, _, hb⟩ := e6.get hj
          rw [PV_keys hb] at hk'
          cases hk'
      · exact (Tr.run_fail hr).elim
    · exact (Tr.run_fail hr).elim
  · exact (Tr.run_fail hr).elim
end
end Go.Eng
end
section
set_option linter.unusedVariables false
set_option linter.unusedSimpArgs false
set_option linter.unusedSectionVars false
namespace Go.Eng
open Go
theorem flatten_set {sz : Nat} : ∀ {els : List (List AV)} (i off : Nat) (ys : List AV), (∀ x ∈ els, x.length = sz) → i < els.length → off + ys.length ≤ sz →
    (els.set i (setRange (els.getD i []) off ys)).flatten = setRange els.flatten (i * sz + off) ys := by
  intro els
  induction els with
  | nil => intro i _ _ _ hi; cases hi
  | cons a els ih =>
    intro i off ys hl hi hle
    have ha := hl a (by simp)
    cases i with
    | zero =>
      simp only [List.set_cons_zero, List.flatten_cons, setRange, List.getD_cons_zero, Nat.zero_mul, Nat.zero_add]
      rw [List.take_append_of_le_length (by omega), List.drop_append_of_le_length (by omega)]
      simp
    | succ i =>
      simp only [List.set_cons_succ, List.flatten_cons, List.getD_cons_succ]
      rw [ih i off ys (fun x hx => hl x (by simp [hx])) (by simpa using hi) hle]
      simp only [setRange]
      have e : (i + 1) * sz + off = a.length + (i * sz + off) := by rw [ha, Nat.add_mul]; omega
      rw [e, List.take_append, List.drop_append]
      have e1 : a.take (a.length + (i * sz + off)) = a := List.take_of_length_le (by omega)
      have e2 : a.drop (a.length + (i * sz + off) + ys.length) = [] := List.drop_of_length_le (by omega)
      rw [e1, e2]
      have e3 : a.length + (i * sz + off) + ys.length - a.length = i * sz + off + ys.length := by omega
      rw [Nat.add_sub_cancel_left, e3]
      simp
theorem take_mid {α : Type} (A ys : List α) {p m N : Nat} (hm : ys.length = m) (h1 : p + m ≤ N) (h2 : N ≤ A.length) : (A.take p ++ ys ++ A.drop (p + m)).take N = (A.take N).take p ++ ys ++ (A.take N).drop (p + m) := by
  have hl : (A.take p ++ ys).length = p + m := by simp; omega
  rw [List.take_append, List.take_of_length_le (by omega), hl, List.take_take, Nat.min_eq_left (by omega), List.drop_take]
section
variable {X : Ctx} (hE : EnvOk X.E) {S : St} {a : Act} {w : World} {st : Stab} {ρ : Nat → Loc} (h : Rel X S a w st ρ) {o : Oper} (hd : ∀ d, o.dst = some d → d < X.N) {kd : Nat} {out : Out}
include hE h hd
theorem store_mem {t : Nat} {x y : Operand} (hop : o.op = .store t x y) (hr : (memOp X.E S.H (opnd X.E S.slot) kd (.store t x y)).run = some out) : StepTo X o a w ⟨putO S.slot o.dst out.v, applyW S.H out.w⟩ := by
  have hx := opnd_rel h x
  have hy := opnd_rel h y
  simp only [memOp, forceL_eq] at hr
  split at hr
  · rename_i k off hk
    rw [hk] at hx
    obtain ⟨b, hb, hv⟩ := R3_ptr hx
    split at hr
    · rename_i cs hH
      simp only [cond_eq_ite] at hr
      split at hr
      · rename_i hc
        simp only [Bool.and_eq_true] at hc
        obtain ⟨⟨⟨hc1, hc2⟩, hc3⟩, hc4⟩ := hc
        have hc2 := beq_true hc2
        have hc3 := nbeq hc3
        have hc4 := Nat.le_of_ble_eq_true hc4
        obtain rfl := Tr.run_ret hr
        obtain ⟨y1, y2⟩ := cells_rel hc1 hy
        have hB := h.heap k _ hH
        rw [hb] at hB
        obtain ⟨arr, te, h1, h2, h3, h4⟩ := hB
        have hl := h2.length
        have hyl := y1.length
        simp only [Array.length_toList] at hyl hl
        obtain ⟨w', r1, r2⟩ := store_run hE (b := b) (o := off) h1 hc3 (by omega) (by omega) y2
        have hkeep : Keep st w w' := fun x o hs => cell_of_block (r2.other x fun e => by subst e; exact h4 rfl o hs)
        refine .skip (w' := w') (st' := st) (ρ' := ρ) (by simp only [execOp, hop, hv]; exact run_unit r1) ?_
        refine h.write hH (by rw [hb]; rfl) (fun l => by cases l <;> rfl) r2.os r2.tape r2.output r2.size r2.other hkeep ?_ ?_ o.dst .undef undef (fun _ _ => rfl) (fun _ _ _ h => by cases h) hd
        · rw [hb]
          refine ⟨_, te, r2.blk, ?_, fun z hz => ?_, h4⟩
          · have := (h2.setRange y1 off).mono fun _ _ => R1.mono (fun _ _ h => h) hkeep
            simp only [Array.length_toList] at this
            rw [show (a.eval y).cells.size = X.E.sz t from by omega] at this
            exact this
          · simp only [List.mem_append] at hz
            rcases hz with (hz | hz) | hz
            · exact h3 z (List.mem_of_mem_take hz)
            · exact y2 z hz
            · exact h3 z (List.mem_of_mem_drop hz)
        · intro cs' fz hB' c hc k' hk'
          cases hB'
          unfold setRange at hc
          simp only [List.mem_append] at hc
          rcases hc with (hc | hc) | hc
          · exact h.kinH k cs false hH c (List.mem_of_mem_take hc) k' hk'
          · exact opnd_keys h y k' (cellsOf_keys hc hk')
          · exact h.kinH k cs false hH c (List.mem_of_mem_drop hc) k' hk'
      · exact (Tr.run_fail hr).elim
    · exact (Tr.run_fail hr).elim
  · rename_i k sz i off hk
    rw [hk] at hx
    obtain ⟨g, n, c, hb, hv⟩ := R3_rp hx
    split at hr
    · rename_i e sz' els hH
      simp only [cond_eq_ite] at hr
      split at hr
      · rename_i hc
        simp only [Bool.and_eq_true] at hc
        obtain ⟨⟨⟨⟨⟨hc1, hc0⟩, hc2⟩, hc3⟩, hc4⟩, hc5⟩ := hc
        obtain rfl := beq_true hc0
        have hc2 := beq_true hc2
        have hc3 := nbeq hc3
        have hc4 := Nat.le_of_ble_eq_true hc4
        obtain ⟨hlt, hr⟩ := Tr.run_need hr
        obtain rfl := Tr.run_ret hr
        obtain ⟨y1, y2⟩ := cells_rel hc1 hy
        have hB := h.heap k _ hH
        rw [hb] at hB
        obtain ⟨vals, ⟨h1, h2⟩, h3, h4, h5⟩ := hB
        have hyl := y1.length
        simp only [Array.length_toList] at hyl
        rcases h2 with ⟨q1, _⟩ | ⟨g', cap, cur, q1, h5', h6, h7, h8, h9, h10⟩
        · cases q1
        cases q1
        have hin : (i + 1) * sz ≤ els.length * sz := Nat.mul_le_mul_right _ hlt
        rw [Nat.add_mul] at hin
        have hcap : els.length * sz ≤ c * sz := Nat.mul_le_mul_right _ h7
        obtain ⟨w', r1, r2⟩ := store_run hE (b := g) (o := i * sz + off) h6 hc3 (by omega) (by omega) y2
        have hno : ∀ o, ¬ st g o := fun o ho => by have := (h5 g rfl o ho).1; cases this
        have hkeep : Keep st w w' := fun x o hs => cell_of_block (r2.other x fun e => by subst e; exact hno o hs)
        refine .skip (w' := w') (st' := st) (ρ' := ρ) (by simp only [execOp, hop, hv]; exact run_unit r1) ?_
        have yP : All2 (PV w st) (cellsOf (opnd X.E S.slot y)) (a.eval y).cells.toList := y1.mono_mem fun c x hc hr => R1_pers_PV ((List.all_eq_true.1 hc5) c hc) hr
        refine h.write hH (by rw [hb]; rfl) (fun l => by cases l <;> rfl) r2.os r2.tape r2.output r2.size r2.other hkeep ?_ (fun _ _ hB => by cases hB) o.dst .undef undef (fun _ _ => rfl) (fun _ _ _ h => by cases h) hd
        rw [hb]
        have hset := flatten_set (sz := sz) i off (cellsOf (opnd X.E S.slot y)) h4 hlt (by omega)
        refine ⟨vals.take (i * sz + off) ++ (a.eval y).cells.toList ++ vals.drop (i * sz + off + X.E.sz t), ⟨by simp; omega, .inr ⟨g, c, _, by simp, h5', r2.blk, by simpa using h7, h8, by simp; omega, ?_⟩⟩, ?_, ?_, fun g' hg' o' ho' => ?_⟩
        · rw [← h10]
          simp only [List.length_set]
          exact take_mid _ _ (by simp; omega) (by omega) (by simp; omega)
        · rw [hset]
          have := (h3.setRange yP (i * sz + off)).mono fun _ _ h => h.mono (fun _ _ h => h) hkeep
          simp only [Array.length_toList] at this
          rw [show (a.eval y).cells.size = X.E.sz t from by omega] at this
          exact this
        · intro z hz
          rcases List.mem_or_eq_of_mem_set hz with hz | rfl
          · exact h4 z hz
          · have : (els.getD i []).length = sz := by
              have : els.getD i [] ∈ els := by rw [List.getD_eq_getElem?_getD, List.getElem?_eq_getElem hlt]; exact List.getElem_mem hlt
              exact h4 _ this
            simp only [setRange, List.length_append, List.length_take, List.length_drop]
            omega
        · cases hg'; exact absurd ho' (hno o')
      · exact (Tr.run_fail hr).elim
    · exact (Tr.run_fail hr).elim
  · exact (Tr.run_fail hr).elim
end
end Go.Eng
end
section
set_option linter.unusedVariables false
set_option linter.unusedSimpArgs false
set_option linter.unusedSectionVars false
namespace Go.Eng
open Go
theorem ev_alloc (M : Nat → Prop) (w : World) (ob : Obj) : Ev M w (w.alloc ob) := ⟨rfl, rfl, rfl, by show w.heap.size ≤ (w.heap.push ob).size; simp, fun k hk _ => by show (w.heap.push ob)[k]? = _; rw [Array.getElem?_push, if_neg (by omega)]⟩
theorem heap_alloc_new (w : World) (ob : Obj) : (w.alloc ob).heap[w.heap.size]? = some ob := by show (w.heap.push ob)[w.heap.size]? = _; simp
theorem rep_length (n : Nat) (z : List AV) : (rep n z).length = n * z.length := by
  induction n with
  | zero => simp [rep]
  | succ n ih => simp only [rep, List.length_append, ih, Nat.add_mul]; omega
theorem rep_get {z : List AV} (hz : z ≠ []) : ∀ (n i : Nat), i < n * z.length → (rep n z)[i]? = z[i % z.length]? := by
  intro n
  have hpos : 0 < z.length := List.length_pos_iff.2 hz
  induction n with
  | zero => intro i hi; omega
  | succ n ih =>
    intro i hi
    rw [Nat.add_mul] at hi
    simp only [rep]
    by_cases h : i < z.length
    · rw [List.getElem?_append_left h, Nat.mod_eq_of_lt h]
    · rw [List.getElem?_append_right (by omega), ih _ (by omega), Nat.mod_eq_sub_mod (a := i) (by omega)]
theorem made_rel {R : AV → Value → Prop} {z : List AV} {zs : Array Value} (h : All2 R z zs.toList) (hz : z ≠ []) (n : Nat) : All2 R (rep n z) (madeCells zs (n * z.length)).toList := by
  have hl := h.length
  simp only [Array.length_toList] at hl
  have hpos : 0 < z.length := List.length_pos_iff.2 hz
  refine All2.of_get (by rw [rep_length]; simp [madeCells]) fun i a b ha hb => ?_
  have hi : i < n * z.length := by rw [← rep_length]; exact (List.getElem?_eq_some_iff.1 ha).1
  rw [rep_get hz n i hi] at ha
  obtain ⟨c, hc, hr⟩ := h.get ha
  simp only [madeCells, Array.toList_map, Array.toList_range, List.getElem?_map, List.getElem?_range hi, Option.map_some, Option.some.injEq] at hb
  rw [← hl] at hb
  have hm : i % z.length < zs.size := by have := Nat.mod_lt i hpos; omega
  rw [Array.getElem?_toList] at hc
  have : zs[i % z.length]! = c := by
    rw [Array.getElem!_eq_getD, Array.getD_eq_getD_getElem?, hc]; rfl
  rw [← hb, this]
  exact hr
theorem made_one {zs : Array Value} (hpos : 0 < zs.size) (h : ∀ x ∈ zs.toList, x.oneCell' = true) (n : Nat) : ∀ x ∈ (madeCells zs n).toList, x.oneCell' = true := by
  intro x hx
  simp only [madeCells, Array.toList_map, List.mem_map] at hx
  obtain ⟨i, _, rfl⟩ := hx
  have hm : i % zs.size < zs.size := Nat.mod_lt i hpos
  refine h _ ?_
  rw [getElem!_pos zs _ hm]
  simp
section
variable {X : Ctx} (hE : EnvOk X.E) {S : St} {a : Act} {w : World} {st : Stab} {ρ : Nat → Loc} (h : Rel X S a w st ρ) {o : Oper} (hd : ∀ d, o.dst = some d → d < X.N) {kd : Nat} {out : Out}
include hE h hd
theorem box_step {t : Nat} {cs : List AV} {arr : Array Value} (hfree : S.H kd = none) (hr : All2 (R1 w st ρ) cs arr.toList) (h1 : ∀ x ∈ arr.toList, x.oneCell' = true) (hk : ∀ c ∈ cs, ∀ k ∈ keys1 c, (S.H k).isSome = true)
    (hrun : (execOp a.eval o).run X.E.P w = .ok (.value (.pointer (some ⟨w.heap.size, 0, none⟩))) (w.alloc (.cells arr t))) :
    StepTo X o a w ⟨putO S.slot o.dst (.ptr kd 0), upd S.H kd (some (.box cs false))⟩ := by
  have hev := ev_alloc (fun _ => False) w (.cells arr t)
  have hkeep : Keep st w (w.alloc (.cells arr t)) := fun b o hs => cell_of_block (hev.block b (h.sta.lt hs) (fun h => h))
  refine .value hrun (h.fresh o.dst (l := .blk w.heap.size) hfree hev (fun x hx => by cases hx; exact Nat.le_refl _) ?_ ?_ (.ptr kd 0) _ ?_ ?_ hd)
  · refine ⟨arr, t, heap_alloc_new w _, hr.mono_mem fun c v hc hv => R1_rho (fun k hkk => upd_other _ _ fun e => ?_) (hv.mono (fun _ _ h => h) hkeep), h1, fun _ o ho => ?_⟩
    · subst e; have := hk c hc _ hkk; rw [hfree] at this; cases this
    · exact absurd (h.sta.lt ho) (Nat.lt_irrefl _)
  · intro cs' fz hB; cases hB; exact hk
  · exact ⟨w.heap.size, by rw [upd_same], rfl⟩
  · intro k hk; simp [keysT, keys, keys1] at hk; exact .inl hk
theorem free_of {d : Nat} (hf : freshKey S.H d = true) : S.H d = none := by
  unfold freshKey at hf
  split at hf
  · assumption
  · cases hf
theorem alloc_mem {t : Nat} (hop : o.op = .alloc t) (hr : (memOp X.E S.H (opnd X.E S.slot) kd (.alloc t)).run = some out) : StepTo X o a w ⟨putO S.slot o.dst out.v, applyW S.H out.w⟩ := by
  simp only [memOp, cond_eq_ite] at hr
  split at hr
  · rename_i hc
    simp only [Bool.and_eq_true] at hc
    have hnz := nbeq hc.2
    obtain rfl := Tr.run_ret hr
    unfold Env.sz at hnz
    split at hnz
    · rename_i i hi
      obtain ⟨inf, z, q1, q2, q3, q4⟩ := zero_rel hE hi w st ρ
      have hz : X.E.zero t = i.zero := by simp [Env.zero, hi]
      rw [← hz] at q3
      refine box_step hE h hd (t := t) (free_of hE h hd hc.1) q3 q4 (fun c hc k hk => by rw [zero_keys hE t c hc] at hk; cases hk) ?_
      simp only [execOp, hop]
      refine run_value ?_
      simp [Instr.alloc, zeroValue, typeInfo, q1, q2, newVar, newRow]
    · exact absurd rfl hnz
  · exact (Tr.run_fail hr).elim
theorem box_mem {t : Nat} {x : Operand} (hop : o.op = .box t x) (hr : (memOp X.E S.H (opnd X.E S.slot) kd (.box t x)).run = some out) : StepTo X o a w ⟨putO S.slot o.dst out.v, applyW S.H out.w⟩ := by
  simp only [memOp, cond_eq_ite] at hr
  split at hr
  · rename_i hc
    simp only [Bool.and_eq_true] at hc
    obtain ⟨⟨⟨hc1, hc2⟩, hc3⟩, hc4⟩ := hc
    obtain rfl := Tr.run_ret hr
    obtain ⟨y1, y2⟩ := cells_rel hc2 (opnd_rel h x)
    refine box_step hE h hd (t := t) (free_of hE h hd hc1) y1 y2 (fun c hc k hk => opnd_keys h x k (cellsOf_keys hc hk)) ?_
    simp only [execOp, hop]
    refine run_value ?_
    simp [Instr.box, newVar, newRow]
  · exact (Tr.run_fail hr).elim
theorem row_step {e sz : Nat} {els : List (List AV)} {kr : List Nat} {v : Value} {w' : World} {vals : List Value} (hfree : S.H kd = none) (hev : Ev (fun _ => False) w w') (ho : w'.ownsRow 0 e sz v els.length vals) (hnew : ∀ g, v.ownBlock = some g → w.heap.size ≤ g)
    (hr : All2 (PV w st) els.flatten vals) (hl : ∀ x ∈ els, x.length = sz)
    (hrun : (execOp a.eval o).run X.E.P w = .ok (.value v) w') :
    StepTo X o a w ⟨putO S.slot o.dst (.row kd), upd S.H kd (some (.row e sz els false))⟩ := by
  have hkeep : Keep st w w' := fun b o hs => cell_of_block (hev.block b (h.sta.lt hs) (fun h => h))
  refine .value hrun (h.fresh o.dst (l := .rowv v) hfree hev (B := .row e sz els false) (fun x hx => hnew x hx) ?_ (fun _ _ h => by cases h) (.row kd) _ ?_ ?_ hd)
  · exact ⟨vals, ho, hr.mono fun _ _ h => h.mono (fun _ _ h => h) hkeep, hl, fun g hg o ho => absurd (h.sta.lt ho) (by have := hnew g hg; omega)⟩
  · rcases ho.2 with ⟨rfl, _⟩ | ⟨g, cap, cur, rfl, _⟩
    · exact ⟨none, 0, 0, rfl, by rw [upd_same]⟩
    · exact ⟨_, _, _, rfl, by rw [upd_same]⟩
  · intro k hk; simp [keysT, keys, keys1] at hk; exact .inl hk
theorem makeSlice_mem {t : Nat} {l c : Operand} (hop : o.op = .makeSlice t l c) (hr : (memOp X.E S.H (opnd X.E S.slot) kd (.makeSlice t l c)).run = some out) : StepTo X o a w ⟨putO S.slot o.dst out.v, applyW S.H out.w⟩ := by
  have hx := opnd_rel h l
  have hy := opnd_rel h c
  simp only [memOp] at hr
  split at hr
  · rename_i e esz n m hk hl hc
    rw [hl] at hx
    rw [hc] at hy
    obtain ⟨hu, hz⟩ := kind_slice hE.tok hk
    simp only [cond_eq_ite] at hr
    split at hr
    · rename_i hcc
      simp only [Bool.and_eq_true] at hcc
      obtain ⟨⟨⟨⟨c1, c2⟩, c3⟩, c4⟩, c5⟩ := hcc
      have c2 := nbeq c2
      have c3 := Nat.le_of_ble_eq_true c3
      have c4 := beq_true c4
      obtain ⟨⟨n0, nm, hm⟩, hr⟩ := Tr.run_need hr
      obtain rfl := Tr.run_ret hr
      have hti : ∃ ti, X.E.ti e = some ti := by
        unfold Env.zero at c4
        split at c4
        · exact ⟨_, ‹_›⟩
        · simp at c4; omega
      obtain ⟨ti, hti⟩ := hti
      obtain ⟨inf, d, q1, q2, q3, q4, q5, ⟨z, q6, q7⟩, _, q8⟩ := ti_parts' hE.tok hti
      obtain ⟨inf', z', p1, p2, p3, p4⟩ := zero_rel hE hti w st ρ
      rw [q1] at p1; cases p1
      rw [q6] at p2; cases p2
      have hzero : X.E.zero e = ti.zero := by simp [Env.zero, hti]
      rw [← hzero] at p3
      have hsz : esz = inf.size := by rw [← hz]; simp [szP, q1]
      subst hsz
      have hzs : z.cells.size = inf.size := by have := p3.length; simp at this; omega
      have hne : X.E.zero e ≠ [] := fun e => by rw [e] at c4; simp at c4; omega
      have hbytes : (inf.bytes : Int) * m ≤ 281474976710656 := by
        have h1 : (inf.bytes : Int) ≤ 1048576 := by omega
        have h2 : (inf.bytes : Int) * m ≤ 1048576 * 1048576 := Int.mul_le_mul h1 hm (by omega) (by omega)
        omega
      have hrun := run_make (P := X.E.P) w t e inf z hu q1 q6 .i64 .i64 n m n0 nm hbytes (by omega)
      have hP : All2 (PV w st) (rep n.toNat (X.E.zero e)) (madeCells z.cells (n.toNat * inf.size)).toList := by
        have := made_rel (p3.mono_mem fun c v hc hr => R1_pers_PV ((List.all_eq_true.1 c5) c hc) hr) hne n.toNat
        rwa [c4] at this
      have hrep : rep n.toNat (X.E.zero e) = (List.replicate n.toNat (X.E.zero e)).flatten := by
        generalize n.toNat = k
        induction k with
        | zero => rfl
        | succ k ih => simp only [rep, List.replicate_succ, List.flatten_cons, ih]
      rw [hrep] at hP
      refine row_step hE h hd (els := List.replicate n.toNat (X.E.zero e)) (free_of hE h hd c1) (ev_alloc _ w _) (vals := (madeCells z.cells (n.toNat * inf.size)).toList) ⟨by simp [madeCells], .inr ⟨w.heap.size, m.toNat, madeCells z.cells (m.toNat * inf.size), by rw [List.length_replicate], by omega, heap_alloc_new w _, by rw [List.length_replicate]; omega, (show m.toNat ≤ 2 ^ 63 - 1 by omega), size_madeCells _ _, ?_⟩⟩ (fun g hg => by cases hg; exact Nat.le_refl _) hP (fun x hx => by rw [(List.mem_replicate.1 hx).2]; exact c4) (kr := []) ?_
      · simp only [List.length_replicate, madeCells, Array.toList_map, Array.toList_range]
        rw [← List.map_take, List.take_range, Nat.min_eq_left]
        exact Nat.mul_le_mul_right _ (by omega)
      · simp only [execOp, hop]
        rw [R3_int hx, R3_int hy]
        exact run_value hrun
    · exact (Tr.run_fail hr).elim
  · exact (Tr.run_fail hr).elim
end
end Go.Eng
end
