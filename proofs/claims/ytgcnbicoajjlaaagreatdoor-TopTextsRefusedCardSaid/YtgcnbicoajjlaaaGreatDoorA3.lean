/-
What is proved: 'midrangetop.TopTextsRefused' returns true for every input, and its arguments read behind the call as they read before (the tied card of the statement 'TopTextsRefused').
  Its conditions: the row's own: the ten listed package-level variables start as the program's text lays them (the card ties them to that text); nothing else is asked.
  Part 3 of 15.
-/
import Derived.Test.YtgcnbicoajjlaaaGreatDoorA2
import Derived.Laws.IdiomStrings
import Derived.Deep.AppendSrc
import Derived.Deep.Upon
import Derived.Orders
set_option linter.unusedSectionVars false
set_option linter.unusedVariables false
set_option linter.unusedSimpArgs false
section
set_option linter.unusedVariables false
set_option linter.unusedSimpArgs false
set_option linter.unusedSectionVars false
namespace Go.Eng
open Go
theorem Array.toList_toArray' (x : Array Value) : x.toList.toArray = x := by simp
section
variable {X : Ctx} (hE : EnvOk X.E) {S : St} {a : Act} {w : World} {st : Stab} {ρ : Nat → Loc} (h : Rel X S a w st ρ) {o : Oper} (hd : ∀ d, o.dst = some d → d < X.N) {kd : Nat} {out : Out}
include hE h hd
omit h hE hd in
theorem askIdx_run {α : Type} {j : Int} {f : Nat → Tr α} {a : α} : ∀ {n : Nat}, (askIdx j n f).run = some a → (f j.toNat).run = some a
  | 0, hr => (Tr.run_fail hr).elim
  | n + 1, hr => by
    simp only [askIdx, Tr.run] at hr
    split at hr
    · rename_i hj
      have hj : j = n := by simpa using hj
      rw [hj]
      simpa using hr
    · exact askIdx_run hr
theorem indexAddr_mem {t : Nat} {x i : Operand} (hop : o.op = .indexAddr t x i) (hr : (memOp X.E S.H (opnd X.E S.slot) kd (.indexAddr t x i)).run = some out) : StepTo X o a w ⟨putO S.slot o.dst out.v, applyW S.H out.w⟩ := by
  have hx := opnd_rel h x
  have hi := opnd_rel h i
  have hkx := opnd_keys h x
  simp only [memOp] at hr
  split at hr
  · rename_i k kk j hk hj
    rw [hk] at hx hkx
    rw [hj] at hi
    obtain ⟨a1, n1, c1, hv, hloc⟩ : ∃ a n c, _ = Value.slice a n c ∧ ρ k = .rowv _ := hx
    split at hr
    · rename_i e sz els p e' esz hH hkd
      simp only [cond_eq_ite] at hr
      split at hr
      · rename_i hc
        simp only [Bool.and_eq_true] at hc
        obtain rfl := beq_true hc.1
        have hnz := nbeq hc.2
        obtain ⟨⟨j0, jn⟩, hr⟩ := Tr.run_need hr
        obtain rfl := Tr.run_ret hr
        obtain ⟨hu, hz⟩ := kind_slice hE.tok hkd
        obtain ⟨inf, hin, hs⟩ := szP_info hz hnz
        have hB := h.heap k _ hH
        rw [hloc] at hB
        obtain ⟨g, c, vs, e1, _⟩ := row_elem hB (i := j.toNat) (by omega)
        refine .value (val := .pointer (some ⟨g, j.toNat * sz + 0, none⟩)) (w' := w) ?_ (h.put o.dst (.rp k sz j.toNat 0) _ (fun _ _ => ⟨g, _, _, by rw [hloc, e1], rfl⟩) (fun _ _ k' hk' => hkx k' hk') hd)
        simp only [execOp, hop]
        refine run_value ?_
        rw [e1, R3_int hi]
        simp [Instr.indexAt, asIntOf, run_underlying hu, j0, jn, sizeOf, typeInfo, hin, hs, Addr.add_mid]
      · exact (Tr.run_fail hr).elim
    · exact (Tr.run_fail hr).elim
  · rename_i k off kk j hk hj
    rw [hk] at hx hkx
    rw [hj] at hi
    obtain ⟨b, hb, hv⟩ := R3_ptr hx
    split at hr
    · rename_i n e esz hkd
      simp only [cond_eq_ite] at hr
      split at hr
      · exact (Tr.run_fail hr).elim
      · rename_i hnz
        have hnz : esz ≠ 0 := by simpa using hnz
        obtain ⟨⟨j0, jn⟩, hr⟩ := Tr.run_need hr
        have hr : (Tr.ret (⟨.ptr k (off + j.toNat * esz), [], []⟩ : Out)).run = some out := by
          split at hr
          · exact askIdx_run (f := fun c => Tr.ret (⟨.ptr k (off + c * esz), [], []⟩ : Out)) hr
          · exact hr
        obtain rfl := Tr.run_ret hr
        obtain ⟨hu, hz⟩ := kind_array hE.tok hkd
        obtain ⟨inf, hin, hs⟩ := szP_info hz hnz
        refine .value (val := .pointer (some ⟨b, off + j.toNat * esz, none⟩)) (w' := w) ?_ (h.put o.dst (.ptr k (off + j.toNat * esz)) _ (fun _ _ => ⟨b, hb, rfl⟩) (fun _ _ k' hk' => hkx k' hk') hd)
        simp only [execOp, hop]
        refine run_value ?_
        rw [hv, R3_int hi]
        simp [Instr.indexAt, asIntOf, run_underlying hu, j0, jn, sizeOf, typeInfo, hin, hs, Addr.add_mid, Instr.sureAddr]
    · exact (Tr.run_fail hr).elim
  · exact pure_step hE h hd hop hr
theorem len_mem {args : Array Operand} {at_ : Array TypeId} (hop : o.op = .call { callee := .builtin .len, args, argTypes := at_ }) (hr : (memOp X.E S.H (opnd X.E S.slot) kd (.call { callee := .builtin .len, args, argTypes := at_ })).run = some out) : StepTo X o a w ⟨putO S.slot o.dst out.v, applyW S.H out.w⟩ := by
  simp only [memOp] at hr
  split at hr
  · rename_i k e esz hx hk
    cases ha : args[0]? with
    | none => simp [ha] at hx
    | some x =>
    cases ht : at_[0]? with
    | none => simp [ht] at hk
    | some t =>
    simp only [ha, ht, Option.map_some, Option.some.injEq] at hx hk
    have hg := opnd_rel h x
    rw [hx] at hg
    obtain ⟨a1, n1, c1, hv, hloc⟩ : ∃ a n c, _ = Value.slice a n c ∧ ρ k = .rowv _ := hg
    split at hr
    · rename_i e1 sz els p hH
      obtain rfl := Tr.run_ret hr
      have hB := h.heap k _ hH
      rw [hloc] at hB
      have hn : n1 = els.length := by
        obtain ⟨vals, ⟨_, h2⟩, _⟩ := hB
        rcases h2 with ⟨e1, e2⟩ | ⟨g, cap, cur, e1, _⟩
        · rw [hv] at e1; cases e1; omega
        · rw [hv] at e1; cases e1; rfl
      refine .value (val := goInt n1) (w' := w) ?_ (h.put o.dst (.int .i64 els.length) _ (fun _ _ => by rw [hn]; exact R_int ..) (fun _ _ _ h => by cases h) hd)
      simp only [execOp, hop, resolve, Sem.run_bind, Sem.run_pure, Result.andThen_ok, invoke]
      exact run_value (by simp [Builtin.len_, ht, ha, run_underlying (kind_slice hE.tok hk).1, hv, goInt])
    · exact (Tr.run_fail hr).elim
  · exact pure_step hE h hd hop hr
theorem frzH_one {H : Nat → Option Blk} {k : Nat} {B : Blk} (hk : H k = some B) : frzH H (fun j => j == k) = upd H k (some (frz B)) := by
  funext j
  unfold frzH
  by_cases hj : j = k
  · subst hj; rw [upd_same, if_pos (by simp), hk]; rfl
  · rw [upd_other _ _ hj, if_neg (by simpa using hj)]
theorem upd_id {H : Nat → Option Blk} {k : Nat} {B : Blk} (hk : H k = some B) : upd H k (some B) = H := by
  funext j
  by_cases hj : j = k
  · subst hj; rw [upd_same, hk]
  · rw [upd_other _ _ hj]
theorem viewK_rel {k : Nat} {e sz : Nat} {els : List (List AV)} {p : Bool} (hH : S.H k = some (.row e sz els p)) (y : Operand) : R3 w (stF st S.H ρ (fun j => j == k)) ρ (viewK S.H k (opnd X.E S.slot y)) (a.eval y) ∧ ∀ k' ∈ keysT (viewK S.H k (opnd X.E S.slot y)), (S.H k').isSome = true := by
  have h0 := opnd_rel h y
  have hk0 := opnd_keys h y
  generalize opnd X.E S.slot y = v at h0 hk0
  have h1 := h0.mono (w' := w) (st' := stF st S.H ρ (fun j => j == k)) (fun _ _ h => .inl h) (Keep.refl _ _)
  cases v <;> first | exact ⟨h1, hk0⟩ | skip
  rename_i k'
  obtain ⟨a1, n1, c1, hv, hloc⟩ : ∃ a n c, _ = Value.slice a n c ∧ ρ k' = .rowv _ := h0
  simp only [viewK]
  cases hb : Nat.beq k' k with
  | false => exact ⟨trivial, fun _ h => by cases h⟩
  | true =>
    obtain rfl := beq_true hb
    simp only [cond_true, hH]
    have hB := h.heap k' _ hH
    rw [hloc] at hB
    exact ⟨row_PV hB (fun _ _ h => .inl h) (fun g hg o ho => .inr ⟨k', _, by simp, hH, by rw [hloc]; exact hg, ho⟩), fun _ h => by cases h⟩
theorem slice_mem {t : Nat} {x : Operand} {lo hi : Option Operand} (hop : o.op = .slice t x lo hi none) (hr : (memOp X.E S.H (opnd X.E S.slot) kd (.slice t x lo hi none)).run = some out) : StepTo X o a w ⟨putO S.slot o.dst out.v, applyW S.H out.w⟩ := by
  simp only [memOp] at hr
  split at hr
  · rename_i k hk
    split at hr
    · rename_i e sz els hH
      obtain ⟨v, hv, h2⟩ := Tr.run_bind_some hr
      obtain rfl := Tr.run_ret h2
      have h1 := h.freeze (fun j => j == k)
      rw [frzH_one hE h hd hH, show frz (.row e sz els true) = .row e sz els true from rfl, upd_id hE h hd hH] at h1
      rw [← hop] at hv
      obtain ⟨val, r1, r2⟩ := pure_sound hE (fun y => (viewK_rel hE h hd hH y).1) hv
      exact .value r1 (h1.put o.dst v val (fun _ _ => r2) (fun _ _ => pure_keys hE (fun y => (viewK_rel hE h hd hH y).1) hv (fun y => (viewK_rel hE h hd hH y).2)) hd)
    · rename_i e sz els hH
      obtain ⟨v, hv, h2⟩ := Tr.run_bind_some hr
      obtain rfl := Tr.run_ret h2
      have h1 := h.freeze (fun j => j == k)
      rw [frzH_one hE h hd hH] at h1
      rw [← hop] at hv
      obtain ⟨val, r1, r2⟩ := pure_sound hE (fun y => (viewK_rel hE h hd hH y).1) hv
      refine .value r1 (h1.put o.dst v val (fun _ _ => r2) (fun _ _ k' hk' => ?_) hd)
      have := pure_keys hE (fun y => (viewK_rel hE h hd hH y).1) hv (fun y => (viewK_rel hE h hd hH y).2) k' hk'
      show (upd S.H k _ k').isSome = true
      by_cases hj : k' = k
      · subst hj; rw [upd_same]; rfl
      · rw [upd_other _ _ hj]; exact this
    · exact (Tr.run_fail hr).elim
  · exact pure_step hE h hd hop hr
end
end Go.Eng
end
section
set_option linter.unusedVariables false
set_option linter.unusedSimpArgs false
set_option linter.unusedSectionVars false
namespace Go.Eng
open Go
theorem isByte_at {x : List AV} (h : isByte x) : ∃ n : Int, x = [.int .u8 n] ∧ 0 ≤ n ∧ n < 256 := by
  unfold isByte at h
  split at h
  · exact ⟨_, rfl, h⟩
  · exact h.elim
theorem bytesV_get {n : Nat} {f : Nat → List AV} (h : ∀ i, i < n → isByte (f i)) {j : Nat} (hj : j < n) : ∃ x : Int, f j = [.int .u8 x] ∧ (bytesV (elsOf n f))[j]? = some (UInt8.ofNat x.toNat) ∧ ((UInt8.ofNat x.toNat).toNat : Int) = x := by
  obtain ⟨x, hx, h0, h1⟩ := isByte_at (h j hj)
  refine ⟨x, hx, ?_, ?_⟩
  · simp [bytesV, elsOf, hj, hx]
  · simp only [UInt8.toNat_ofNat']
    omega
theorem bytesV_length (n : Nat) (f : Nat → List AV) : (bytesV (elsOf n f)).length = n := by simp [bytesV, elsOf]
theorem bytes_back {P : Program} {w : World} {st : Stab} {s t e : Nat} (hs : P.underlying s = some (.slice e)) (he : P.underlying e = some (.int .u8)) (ht : P.underlying t = some .string)
    {fl : Bool} {n : Nat} {f : Nat → List AV} {v : Value} (h : PV w st (.sl fl 1 n f) v) (hb : ∀ i, i < n → isByte (f i)) : (Go.convert s t v).run P w = .ok (.string ⟨(bytesV (elsOf n f)).toArray⟩) w := by
  obtain ⟨a, c, b, o, vals, rfl, q1, q2, q3, q4, q5, q6, q7, q8⟩ := R3_sl (ρ := fun _ => .blk 0) h
  have hl := bytesV_length n f
  cases a with
  | none =>
    have hn : n = 0 := by
      rcases Nat.eq_zero_or_pos n with h | h
      · exact h
      · have := q4 h; cases this
    subst hn
    rw [run_convert_bytes_string w s t e none 0 c hs he ht]
    rfl
  | some A =>
    have := run_convert_bytes_back (P := P) w s t e A c (bytesV (elsOf n f)) hs he ht (fun j hj => by
      rw [hl] at hj
      have hA := q4 (by omega)
      cases hA
      rw [Addr.add_mid]
      have hc := q6 j 0 hj (by omega)
      have hv := q8 j 0 hj (by omega)
      obtain ⟨x, hx, h1, h2⟩ := bytesV_get hb hj
      rw [hx] at hv
      simp only [List.getD_cons_zero] at hv
      have hv' : vals j 0 = .int .u8 x := R1_int (st := st) (w := w) (ρ := fun _ => .blk 0) hv
      rw [Nat.mul_one, Nat.add_zero] at hc
      rw [hc, hv']
      have h3 : (bytesV (elsOf n f))[j] = UInt8.ofNat x.toNat := by
        have := List.getElem?_eq_getElem (l := bytesV (elsOf n f)) (show j < (bytesV (elsOf n f)).length by omega)
        rw [h1] at this; exact (Option.some.inj this).symm
      rw [h3, h2])
    rwa [hl] at this
theorem elsOf_getD (els : List (List AV)) : elsOf els.length (fun i => els.getD i []) = els := by
  apply List.ext_getElem?
  intro i
  simp only [elsOf, List.getElem?_map]
  by_cases h : i < els.length
  · simp [h]
  · rw [List.getElem?_eq_none (by simp; omega), List.getElem?_eq_none (by omega)]; rfl
theorem full_PV {w : World} {st : Stab} {ρ : Nat → Loc} {e sz : Nat} {els : List (List AV)} {v : Value} (h : HB w st ρ (.full e sz els) (.rowv v)) : ∃ st', PV w st' (asSl sz els) v := by
  obtain ⟨g, arr, rfl, h1, h2, h3, h4, h5⟩ := h
  have hL := flatten_len h3
  have hsz : arr.size = els.length * sz := by
    have h6 := h2.length
    rw [hL] at h6
    have : arr.size = arr.toList.length := by simp
    omega
  have hin : ∀ i j, i < els.length → j < sz → i * sz + j < els.length * sz := fun i j hi hj => by
    have : (i + 1) * sz ≤ els.length * sz := Nat.mul_le_mul_right _ hi
    rw [Nat.add_mul] at this; omega
  refine ⟨fun _ _ => True, PV.sl false sz els.length els.length _ (some ⟨g, 0, none⟩) g 0 (fun i j => arr.getD (i * sz + j) undef) (Nat.le_refl _) (by simp) h4 (fun _ => rfl) (fun i hi => ?_) (fun i j hi hj => ?_) (fun _ _ _ _ => trivial) (fun i j hi hj => ?_)⟩
  · have : els.getD i [] ∈ els := by rw [List.getD_eq_getElem?_getD, List.getElem?_eq_getElem hi]; exact List.getElem_mem hi
    exact h3 _ this
  · have hlt := hin i j hi hj
    rw [cell_of_row w g _ arr e (0, 0) h1, Nat.zero_add]
    simp [show i * sz + j < arr.size by omega]
  · have hlt := hin i j hi hj
    have h0 := flatten_get i j h3 hi hj
    have hx : els.flatten[i * sz + j]? = some (els.flatten[i * sz + j]'(by omega)) := List.getElem?_eq_getElem (by omega)
    obtain ⟨b, hb, hr⟩ := h2.get hx
    rw [h0] at hx
    have hb' : arr.getD (i * sz + j) undef = b := by
      rw [Array.getElem?_toList] at hb
      simp [Array.getD_eq_getD_getElem?, hb]
    simp only [List.getD_eq_getElem?_getD] at hx ⊢
    rw [hx, hb']
    exact hr.mono (fun _ _ _ => trivial) (Keep.refl _ _)
section
variable {X : Ctx} (hE : EnvOk X.E) {S : St} {a : Act} {w : World} {st : Stab} {ρ : Nat → Loc} (h : Rel X S a w st ρ) {o : Oper} (hd : ∀ d, o.dst = some d → d < X.N) {kd : Nat} {out : Out}
include hE h hd
theorem convert_mem {s t : Nat} {x : Operand} (hop : o.op = .convert s t x) (hr : (memOp X.E S.H (opnd X.E S.slot) kd (.convert s t x)).run = some out) : StepTo X o a w ⟨putO S.slot o.dst out.v, applyW S.H out.w⟩ := by
  have hx := opnd_rel h x
  simp only [memOp] at hr
  split at hr
  · rename_i b e sz hb hs ht
    rw [hb] at hx
    split at hr
    · rename_i he
      obtain ⟨hlen, hr⟩ := Tr.run_need hr
      obtain rfl := Tr.run_ret hr
      have hs := kind_string hE.tok hs
      have ht := (kind_slice hE.tok ht).1
      have he := kind_int hE.tok he
      have hrun := run_bytes_of_string (P := X.E.P) w s t e ⟨b.toArray⟩ hs ht he
      have hbs : (⟨b.toArray⟩ : ByteArray).size = b.length := by simp [ByteArray.size]
      rw [hbs] at hrun
      generalize hcap : grownCap w b.length 0 e = cap at hrun
      have hge := grownCap_ge w b.length 0 e
      have hle := grownCap_le_maxLen w b.length 0 e (show b.length ≤ 2 ^ 63 - 1 by omega)
      rw [hcap] at hge hle
      generalize hob : Obj.cells (bytesRow ⟨b.toArray⟩ cap) e ((bytesRow ⟨b.toArray⟩ cap).size, (bytesRow ⟨b.toArray⟩ cap).size + 1) = ob at hrun
      have hev : Ev (fun _ => False) w (w.drew.alloc ob) := by
        have := ev_alloc (fun _ => False) w.drew ob
        exact ⟨this.os, this.tape, this.output, this.size, this.block⟩
      have hkeep : Keep st w (w.drew.alloc ob) := fun b o hs => cell_of_block (hev.block b (h.sta.lt hs) (fun h => h))
      have hcell : ∀ j, j < b.length → (w.drew.alloc ob).cell? ⟨w.heap.size, j, none⟩ = some (.int .u8 (b.getD j 0).toNat) := fun j hj => by
        rw [← hob]
        rw [show w.heap.size = w.drew.heap.size from rfl, World.cell?_alloc_mark]
        simp only [bytesRow]
        rw [Array.getElem?_append_left (by simp; omega)]
        simp [hj]
      refine .value (val := .slice (some ⟨w.heap.size, 0, none⟩) b.length cap) (w' := w.drew.alloc ob) (by simp only [execOp, hop]; rw [R3_str hx]; exact run_value hrun)
        (h.grow (st' := fun b' o => st b' o ∨ (b' = w.heap.size ∧ o < b.length)) o.dst _ _ hev (fun _ _ h => .inl h) ?_ ?_ (fun _ _ => ?_) (fun _ _ k hk => by cases hk) hd)
      · rintro b' o hb' (ho | ⟨rfl, _⟩)
        · exact ho
        · omega
      · rintro b' o (ho | ⟨rfl, ho⟩)
        · exact h.sta.keep (by first | exact hev.size | omega) b' o ho
        · exact World.block_lt_of_cell? _ _ (hcell o ho)
      · refine PV.sl false 1 b.length cap _ (some ⟨w.heap.size, 0, none⟩) w.heap.size 0 (fun i _ => .int .u8 (b.getD i 0).toNat) hge (by simp) hle (fun _ => rfl) (fun i hi => rfl) (fun i j hi hj => ?_) (fun i j hi hj => .inr ⟨rfl, by omega⟩) (fun i j hi hj => ?_)
        · obtain rfl : j = 0 := by omega
          rw [Nat.zero_add, Nat.mul_one, Nat.add_zero]; exact hcell i hi
        · obtain rfl : j = 0 := by omega
          simp only [strSl, List.getD_cons_zero]
          exact PV.int ..
    · exact (Tr.run_fail hr).elim
  · rename_i fl n f e sz hb hs ht
    rw [hb] at hx
    split at hr
    · rename_i he
      obtain ⟨hby, hr⟩ := Tr.run_need hr
      obtain rfl := Tr.run_ret hr
      have hs := (kind_slice hE.tok hs).1
      have ht := kind_string hE.tok ht
      have he := kind_int hE.tok he
      refine .value (w' := w) (by simp only [execOp, hop]; exact run_value (bytes_back hs he ht hx hby)) (h.put o.dst _ _ (fun _ _ => R_str ..) (fun _ _ _ h => by cases h) hd)
    · exact (Tr.run_fail hr).elim
  · rename_i e sz hb hs ht
    rw [hb] at hx
    split at hr
    · rename_i he
      obtain rfl := Tr.run_ret hr
      have hs := (kind_slice hE.tok hs).1
      have ht := kind_string hE.tok ht
      have he := kind_int hE.tok he
      refine .value (val := .string ⟨#[]⟩) (w' := w) ?_ (h.put o.dst (.str []) _ (fun _ _ => R_str ..) (fun _ _ _ h => by cases h) hd)
      simp only [execOp, hop]
      rw [R3_nilS hx]
      exact run_value (by rw [run_convert_bytes_string w s t e none 0 0 hs he ht]; rfl)
    · exact (Tr.run_fail hr).elim
  · rename_i k e sz hb hs ht
    rw [hb] at hx
    obtain ⟨a1, n1, c1, hv, hloc⟩ : ∃ a n c, _ = Value.slice a n c ∧ ρ k = .rowv _ := hx
    split at hr
    · rename_i e1 els p he hH
      obtain ⟨hby, hr⟩ := Tr.run_need hr
      obtain rfl := Tr.run_ret hr
      have hs := (kind_slice hE.tok hs).1
      have ht := kind_string hE.tok ht
      have he := kind_int hE.tok he
      have hB := h.heap k _ hH
      rw [hloc] at hB
      have hP := row_PV (st' := stF st S.H ρ (fun j => j == k)) hB (fun _ _ h => .inl h) (fun g' hg' o' ho' => .inr ⟨k, _, by simp, hH, by rw [hloc]; exact hg', ho'⟩)
      have hrun := bytes_back hs he ht hP (fun i hi => hby _ (by rw [List.getD_eq_getElem?_getD, List.getElem?_eq_getElem hi]; exact List.getElem_mem hi))
      rw [elsOf_getD] at hrun
      refine .value (w' := w) (by simp only [execOp, hop]; exact run_value hrun) (h.put o.dst _ _ (fun _ _ => R_str ..) (fun _ _ _ h => by cases h) hd)
    · rename_i e1 els he hH
      obtain ⟨hby, hr⟩ := Tr.run_need hr
      obtain rfl := Tr.run_ret hr
      have hs := (kind_slice hE.tok hs).1
      have ht := kind_string hE.tok ht
      have he := kind_int hE.tok he
      have hB := h.heap k _ hH
      rw [hloc] at hB
      obtain ⟨st2, hP⟩ := full_PV hB
      have hrun := bytes_back hs he ht hP (fun i hi => hby _ (by rw [List.getD_eq_getElem?_getD, List.getElem?_eq_getElem hi]; exact List.getElem_mem hi))
      rw [elsOf_getD] at hrun
      refine .value (w' := w) (by simp only [execOp, hop]; exact run_value hrun) (h.put o.dst _ _ (fun _ _ => R_str ..) (fun _ _ _ h => by cases h) hd)
    · exact (Tr.run_fail hr).elim
  · rename_i k e0 sz0 e sz hb hs ht
    rw [hb] at hx
    obtain ⟨a1, n1, c1, hv, hloc⟩ : ∃ a n c, _ = Value.slice a n c ∧ ρ k = .rowv _ := hx
    split at hr
    · rename_i e1 esz els he hH
      simp only [cond_eq_ite] at hr
      split at hr
      · rename_i hst
        obtain rfl := beq_true hst
        obtain rfl := Tr.run_ret hr
        have ht := (kind_slice hE.tok ht).1
        have he := kind_int hE.tok he
        have hB := h.heap k _ hH
        rw [hloc] at hB
        obtain ⟨g, arr, hval, h1, h2, h3, h4, h5⟩ := hB
        have hglt := (Array.getElem?_eq_some_iff.1 h1).1
        have hsh : w.shape? g = some (e1, arr.size) := by unfold World.shape?; rw [h1]
        have hfr : (w.freeze ⟨g, arr.size, none⟩ 1).heap[g]? = some (.cells arr e1 (arr.size, arr.size + 1)) := by
          unfold World.freeze
          rw [if_neg (by decide)]
          simp only
          rw [Array.getElem?_modify, if_pos rfl, h1]
          rfl
        have hoth : ∀ k, k ≠ g → (w.freeze ⟨g, arr.size, none⟩ 1).heap[k]? = w.heap[k]? := fun k hk => by
          unfold World.freeze
          rw [if_neg (by decide)]
          simp only
          rw [Array.getElem?_modify, if_neg (Ne.symm hk)]
        have hrun : (Go.convert s s (a.eval x)).run X.E.P w = .ok (a.eval x) (w.freeze ⟨g, arr.size, none⟩ 1) := by
          rw [hval]
          simp [Go.convert, run_underlying ht, run_underlying he, markStringish, hsh]
        have hsz : (w.freeze ⟨g, arr.size, none⟩ 1).heap.size = w.heap.size := by
          unfold World.freeze
          rw [if_neg (by decide)]
          simp
        have hb : blkOf (S.H k) (ρ k) = some g := by rw [hH, hloc, hval]; rfl
        generalize hw' : w.freeze ⟨g, arr.size, none⟩ 1 = w' at *
        have hos : w'.os = w.os ∧ w'.tape = w.tape ∧ w'.output = w.output := by rw [← hw']; unfold World.freeze; rw [if_neg (by decide)]; exact ⟨rfl, rfl, rfl⟩
        have hkeep : Keep st w w' := fun x o hs => cell_of_block (hoth x fun e => by subst e; exact h5 o hs)
        have hL := flatten_len h3
        have hal := h2.length
        simp only [Array.length_toList] at hal
        have hcell : ∀ j, j < els.length * esz → w'.cell? ⟨g, j, none⟩ = some (arr.toList.getD j undef) := fun j hj => by
          rw [cell_of_row w' g j arr e1 _ hfr, List.getD_eq_getElem?_getD]
          simp [show j < arr.size by omega]
        have hdom : ∀ j, (S.H j).isSome = true → (upd S.H k (some Blk.dead) j).isSome = true := fun j hj => by
          by_cases hjk : j = k
          · subst hjk; rw [upd_same]; rfl
          · rw [upd_other _ _ hjk]; exact hj
        have hbo : ∀ j x, blkOf (upd S.H k (some Blk.dead) j) (ρ j) = some x → j ≠ k ∧ blkOf (S.H j) (ρ j) = some x := fun j x hj => by
          by_cases hjk : j = k
          · subst hjk; rw [upd_same] at hj; cases hl : ρ j <;> rw [hl] at hj <;> cases hj
          · rw [upd_other _ _ hjk] at hj; exact ⟨hjk, hj⟩
        refine .value (val := a.eval x) (w' := w') (by simp only [execOp, hop]; exact run_value hrun)
          (h.step (st' := fun b' o => st b' o ∨ (b' = g ∧ o < els.length * esz)) (ρ' := ρ) (H' := upd S.H k (some .dead)) o.dst _ _ hos.1 hos.2.1 hos.2.2 (by omega) (fun b' _ hn => hoth b' fun e => hn k (by rw [hb, e])) hkeep (fun _ _ h => .inl h) ?_ ?_ (fun _ _ => rfl) ?_
            (fun j x hj => h.mine j x (hbo j x hj).2) (fun j j' x hj hj' => h.apart j j' x (hbo j x hj).2 (hbo j' x hj').2) hdom ?_ (fun _ _ => ?_) (fun _ _ _ h => by cases h) hd)
        · rintro b' o _ hn (ho | ⟨rfl, _⟩)
          · exact ho
          · exact absurd hb (hn k)
        · rintro b' o (ho | ⟨rfl, ho⟩)
          · exact h.sta.keep (by first | exact hev.size | omega) b' o ho
          · exact World.block_lt_of_cell? _ _ (hcell o ho)
        · intro j B1 hj
          by_cases hjk : j = k
          · subst hjk; rw [upd_same] at hj; cases hj; trivial
          · rw [upd_other _ _ hjk] at hj
            have hne : ∀ x, blkOf (some B1) (ρ j) = some x → x ≠ g := fun x hx e => by
              subst e
              exact hjk (h.apart j k x (by rw [hj]; exact hx) hb)
            refine (h.heap j B1 hj).keep (fun x hx => ⟨hoth x (hne x hx), fun o ho => ?_⟩) (fun _ _ h => .inl h) hkeep (fun _ _ _ _ _ _ _ => rfl)
            rcases ho with ho | ⟨e, _⟩
            · exact ho
            · exact absurd e (hne x hx)
        · intro j cs fz hj c hc k' hk'
          by_cases hjk : j = k
          · subst hjk; rw [upd_same] at hj; cases hj
          · rw [upd_other _ _ hjk] at hj; exact hdom k' (h.kinH j cs fz hj c hc k' hk')
        · rw [hval]
          have hin : ∀ i j, i < els.length → j < esz → i * esz + j < els.length * esz := fun i j hi hj => by
            have : (i + 1) * esz ≤ els.length * esz := Nat.mul_le_mul_right _ hi
            rw [Nat.add_mul] at this; omega
          refine PV.sl true esz els.length els.length _ (some ⟨g, 0, none⟩) g 0 (fun i j => arr.toList.getD (i * esz + j) undef) (Nat.le_refl _) (fun _ => rfl) h4 (fun _ => rfl) (fun i hi => ?_) (fun i j hi hj => ?_) (fun i j hi hj => .inr ⟨rfl, ?_⟩) (fun i j hi hj => ?_)
          · exact h3 _ (by rw [List.getD_eq_getElem?_getD, List.getElem?_eq_getElem hi]; exact List.getElem_mem hi)
          · rw [Nat.zero_add]; exact hcell _ (hin i j hi hj)
          · rw [Nat.zero_add]; exact hin i j hi hj
          · have hlt := hin i j hi hj
            have h0 := flatten_get i j h3 hi hj
            have hx : els.flatten[i * esz + j]? = some (els.flatten[i * esz + j]'(by omega)) := List.getElem?_eq_getElem (by omega)
            obtain ⟨b, hb, hr⟩ := h2.get hx
            rw [h0] at hx
            simp only [List.getD_eq_getElem?_getD] at hx ⊢
            rw [hx, hb]
            exact hr.mono (fun _ _ h => .inl h) hkeep
      · exact (Tr.run_fail hr).elim
    · exact (Tr.run_fail hr).elim
  · exact pure_step hE h hd hop hr
end
end Go.Eng
end
section
set_option linter.unusedVariables false
set_option linter.unusedSimpArgs false
set_option linter.unusedSectionVars false
namespace Go.Eng
open Go
theorem frz_frz (B : Blk) : frz (frz B) = frz B := by cases B <;> rfl
theorem applyW_frz (H0 : Nat → Option Blk) : ∀ (w : List (Nat × Blk)) (H : Nat → Option Blk), (∀ j, H j = H0 j ∨ H j = (H0 j).map frz) → (∀ p ∈ w, (H0 p.1).map frz = some p.2) →
    ∀ j, applyW H w j = if j ∈ w.map (·.1) then (H0 j).map frz else H j := by
  intro w
  induction w with
  | nil => intro H _ _ j; rfl
  | cons p w ih =>
    intro H hH hw j
    obtain ⟨k, b⟩ := p
    have hk := hw (k, b) (by simp)
    simp only at hk
    rw [applyW, ih (upd H k (some b)) (fun j => ?_) (fun p hp => hw p (by simp [hp])) j]
    · by_cases hj : j = k
      · subst hj
        simp only [List.map_cons, List.mem_cons, true_or, if_true, upd_same]
        split
        · rfl
        · exact hk.symm
      · simp only [List.map_cons, List.mem_cons, hj, false_or, upd_other _ _ hj]
    · by_cases hj : j = k
      · subst hj; rw [upd_same]; exact .inr hk.symm
      · rw [upd_other _ _ hj]; exact hH j
theorem frzH_eq {H : Nat → Option Blk} {w : List (Nat × Blk)} {F : Nat → Bool} (hw : ∀ p ∈ w, (H p.1).map frz = some p.2 ∧ F p.1 = true) (hF : ∀ k, F k = true → k ∈ w.map (·.1) ∨ (H k).map frz = H k) : frzH H F = applyW H w := by
  funext j
  rw [applyW_frz H w H (fun _ => .inl rfl) (fun p hp => (hw p hp).1) j]
  unfold frzH
  by_cases hf : F j = true
  · rw [if_pos hf]
    split
    · rfl
    · rename_i hn
      rcases hF j hf with h | h
      · exact absurd h hn
      · exact h
  · rw [if_neg hf]
    split
    · rename_i hm
      obtain ⟨p, hp, rfl⟩ := List.mem_map.1 hm
      exact absurd (hw p hp).2 hf
    · rfl
theorem box_PV {w : World} {st st' : Stab} {ρ : Nat → Loc} {cs : List AV} {fz : Bool} {b : Nat} (h : HB w st ρ (.box cs fz) (.blk b)) (hp : cs.all pers1 = true) (hsub : ∀ b o, st b o → st' b o)
    (hst : ∀ o, o < cs.length → st' b o) : PV w st' (.rd cs) (.pointer (some ⟨b, 0, none⟩)) := by
  obtain ⟨arr, t, h1, h2, h3, _⟩ := h
  have hl := h2.length
  simp only [Array.length_toList] at hl
  refine PV.rd cs b 0 (fun j => arr.toList.getD j undef) (fun j hj => ?_) (fun j hj => by rw [Nat.zero_add]; exact hst j hj) (fun j hj => ?_)
  · rw [Nat.zero_add, cell_of_row w b j arr t (0, 0) h1, List.getD_eq_getElem?_getD]
    simp [show j < arr.size by omega]
  · have hx : cs[j]? = some cs[j] := List.getElem?_eq_getElem hj
    obtain ⟨v, hv, hr⟩ := h2.get hx
    simp only [List.getD_eq_getElem?_getD]
    rw [hx, hv]
    exact (R1_pers_PV ((List.all_eq_true.1 hp) _ (List.getElem_mem hj)) hr).mono hsub (Keep.refl _ _)
section
variable {X : Ctx} (hE : EnvOk X.E) {S : St} {a : Act} {w : World} {st : Stab} {ρ : Nat → Loc} (h : Rel X S a w st ρ) {o : Oper} (hd : ∀ d, o.dst = some d → d < X.N) {kd : Nat} {out : Out}
include h
theorem capt_sound : ∀ (l : List Operand) (vs : List AV) (wr : List (Nat × Blk)) (kr : List Nat), (l.map (opnd X.E S.slot)).foldr (capt S.H) (some ([], [], [])) = some (vs, wr, kr) →
    (∀ p ∈ wr, (S.H p.1).map frz = some p.2 ∧ p.1 ∈ kr) ∧ (∀ k ∈ kr, k ∈ wr.map (·.1) ∨ (S.H k).map frz = S.H k) ∧
    ∀ F : Nat → Bool, (∀ k ∈ kr, F k = true) → All2 (fun v x => PV w (stF st S.H ρ F) v x) vs (l.map a.eval) := by
  intro l
  induction l with
  | nil =>
    intro vs wr kr hf
    simp only [List.map_nil, List.foldr_nil, Option.some.injEq, Prod.mk.injEq] at hf
    obtain ⟨rfl, rfl, rfl⟩ := hf
    exact ⟨by simp, by simp, fun _ _ => .nil⟩
  | cons x l ih =>
    intro vs wr kr hf
    simp only [List.map_cons, List.foldr_cons] at hf
    have hx := opnd_rel h x
    generalize hr : (l.map (opnd X.E S.slot)).foldr (capt S.H) (some ([], [], [])) = r at hf
    unfold capt at hf
    split at hf
    · rename_i k vs0 w0 kr0 hc
      rw [hc] at hx
      obtain ⟨i1, i2, i3⟩ := ih _ _ _ hr
      obtain ⟨b, hb, hv⟩ := R3_ptr hx
      split at hf
      · rename_i cells fz hH
        simp only [cond_eq_ite] at hf
        split at hf
        · rename_i hall
          simp only [Option.some.injEq, Prod.mk.injEq] at hf
          obtain ⟨rfl, rfl, rfl⟩ := hf
          have hB := h.heap k _ hH
          rw [hb] at hB
          refine ⟨?_, ?_, ?_⟩
          · intro p hp
            split at hp
            · exact ⟨(i1 p hp).1, by simp [(i1 p hp).2]⟩
            · simp only [List.mem_cons] at hp
              rcases hp with rfl | hp
              · exact ⟨by simp [hH, frz], by simp⟩
              · exact ⟨(i1 p hp).1, by simp [(i1 p hp).2]⟩
          · intro k' hk'
            simp only [List.mem_cons] at hk'
            split
            · rename_i hfz
              rcases hk' with rfl | hk'
              · exact .inr (by rw [hH, hfz]; rfl)
              · exact i2 k' hk'
            · rcases hk' with rfl | hk'
              · exact .inl (by simp)
              · rcases i2 k' hk' with h' | h'
                · exact .inl (by simp only [List.map_cons, List.mem_cons]; exact .inr h')
                · exact .inr h'
          · intro F hF
            refine .cons ?_ (i3 F fun k hk => hF k (by simp [hk]))
            rw [hv]
            exact box_PV hB hall (fun _ _ h => .inl h) (fun o ho => .inr ⟨k, _, hF k (by simp), hH, by rw [hb]; rfl, ho⟩)
        · cases hf
      · cases hf
    · rename_i vs0 w0 kr0 hne
      simp only [cond_eq_ite] at hf
      split at hf
      · rename_i hp
        simp only [Option.some.injEq, Prod.mk.injEq] at hf
        obtain ⟨rfl, rfl, rfl⟩ := hf
        obtain ⟨i1, i2, i3⟩ := ih _ _ _ hr
        refine ⟨i1, i2, fun F hF => .cons ((R1_pers_PV hp (R3_pers1 hp hx)).mono (fun _ _ h => .inl h) (Keep.refl _ _)) (i3 F hF)⟩
      · cases hf
    · cases hf
include hE hd
theorem makeFunc_mem {fn : Fn} {first cap : Array Operand} (hop : o.op = .makeFunc fn first cap) (hr : (memOp X.E S.H (opnd X.E S.slot) kd (.makeFunc fn first cap)).run = some out) : StepTo X o a w ⟨putO S.slot o.dst out.v, applyW S.H out.w⟩ := by
  cases fn <;> first | exact (Tr.run_fail hr).elim | skip
  rename_i f
  simp only [memOp, cond_eq_ite] at hr
  split at hr
  · rename_i hfs
    have hfs := beq_true hfs
    split at hr
    · rename_i vs wr kr hfold
      obtain rfl := Tr.run_ret hr
      obtain ⟨i1, i2, i3⟩ := capt_sound h cap.toList vs wr kr hfold
      have h1 := h.freeze (fun k => kr.contains k)
      rw [frzH_eq (w := wr) (fun p hp => ⟨(i1 p hp).1, by simpa using (i1 p hp).2⟩) (fun k hk => i2 k (by simpa using hk))] at h1
      have hPV := i3 (fun k => kr.contains k) (fun k hk => by simpa using hk)
      have hf0 : first = #[] := Array.eq_empty_of_size_eq_zero hfs
      refine .value (val := .func (.func f) #[] (cap.map a.eval)) (w' := w) ?_ (h1.put o.dst (.clo f vs) _ (fun _ _ => ⟨cap.toList.map a.eval, by rw [show Value.func (Fn.func f) #[] (cap.map a.eval) = Value.func (Fn.func f) #[] (cap.toList.map a.eval).toArray from by congr 1; apply Array.toList_inj.1; simp], hPV.mono fun _ _ h => R1_of_PV h⟩) (fun _ _ k hk => ?_) hd)
      · simp [execOp, hop, hf0, Instr.makeFunc]
      · exfalso
        simp only [keysT, keys, List.mem_flatMap] at hk
        obtain ⟨c, hc, hk⟩ := hk
        obtain ⟨i, hi⟩ := List.getElem?_of_mem hc
        obtain ⟨v, _, hv⟩ := hPV.get hi
        rw [PV_keys hv] at hk
        cases hk
    · exact (Tr.run_fail hr).elim
  · exact (Tr.run_fail hr).elim
end
end Go.Eng
end
section
set_option linter.unusedVariables false
set_option linter.unusedSimpArgs false
set_option linter.unusedSectionVars false
namespace Go.Eng
open Go
structure Grew (w w' : World) (v v' : Value) (e size n m : Nat) (xs news : List Value) : Prop where
  owns : w'.ownsRow 0 e size v' (n + m) (xs ++ news)
  os : w'.os = w.os
  tape : w'.tape = w.tape
  output : w'.output = w.output
  grows : w.heap.size ≤ w'.heap.size
  other : ∀ k, k < w.heap.size → some k ≠ v.ownBlock → w'.heap[k]? = w.heap[k]?
  cells : ∀ g, v.ownBlock = some g → ∀ j, j < n * size → w'.cell? ⟨g, j, none⟩ = w.cell? ⟨g, j, none⟩
  blk : v'.ownBlock = v.ownBlock ∨ ∀ g, v'.ownBlock = some g → w.heap.size ≤ g
theorem grow_src {P : Program} (w : World) {t tx ty e : Nat} {i : TypeInfo} {z : Value} (ht : P.underlying t = some (.slice e)) (hi : P.info? e = some i) (hz : i.zero = some z) (hzs : z.cells.size = i.size) (hby : i.bytes ≤ 1048576)
    (base : Option Addr) (n c : Nat) (olds : List Value) (hol : olds.length = n * i.size) (hold : (Builtin.firstCells i.size n (.slice base n c)).run P w.drew = .ok olds.toArray w.drew) {x : Value} {m : Nat} {news : List Value} (hs : Src P i.size tx x m news w)
    (hg : c < n + m) (hle : n + m ≤ 1048576) :
    ∃ v' w', (Builtin.append_ #[t, tx] ty #[.slice base n c, x]).run P w = .ok v' w' ∧ w'.ownsRow 0 e i.size v' (n + m) (olds ++ news) ∧ Ev (fun _ => False) w w' ∧ ∀ g, v'.ownBlock = some g → w.heap.size ≤ g := by
  have hbytes : (n + m) * i.bytes ≤ 140737488355328 := by
    have : (n + m) * i.bytes ≤ 1048576 * 1048576 := Nat.mul_le_mul hle hby
    omega
  have hrun := run_append_grow_src (P := P) w t tx ty e i z ht hi hz base n c olds hold x m news hs hg (by omega) (growslice_fits hg hbytes)
  refine ⟨_, _, hrun, ?_, ?_, fun g hg => by cases hg; exact Nat.le_refl _⟩
  · have hge := grownCap_ge w (n + m) c e
    have hcm := grownCap_le_maxLen w (n + m) c e (show n + m ≤ 2 ^ 63 - 1 by omega)
    have hL : (olds ++ news).length = (n + m) * i.size := by rw [List.length_append, hol, hs.newsLen, Nat.add_mul]
    refine ⟨hL, .inr ⟨w.heap.size, _, _, rfl, by omega, heap_alloc_new w.drew _, hge, hcm, ?_, ?_⟩⟩
    · rw [Array.size_append, size_zeroCells, hzs, List.size_toArray, hL, ← Nat.add_mul]
      congr 1; omega
    · rw [Array.toList_append, ← hL]
      exact List.take_left
  · have := ev_alloc (fun _ => False) w.drew (.cells ((olds ++ news).toArray ++ Builtin.zeroCells z.cells (grownCap w (n + m) c e - (n + m))) e)
    exact ⟨this.os, this.tape, this.output, this.size, this.block⟩
theorem append_own_src {P : Program} (w : World) {t tx ty e : Nat} {i : TypeInfo} {z : Value} (ht : P.underlying t = some (.slice e)) (hi : P.info? e = some i) (hz : i.zero = some z) (hzs : z.cells.size = i.size) (hby : i.bytes ≤ 1048576)
    {v : Value} {n : Nat} {xs : List Value} (ho : w.ownsRow 0 e i.size v n xs) {x : Value} {m : Nat} {news : List Value} (hs : Src P i.size tx x m news w) (hle : n + m ≤ 1048576) :
    ∃ v' w', (Builtin.append_ #[t, tx] ty #[v, x]).run P w = .ok v' w' ∧ Grew w w' v v' e i.size n m xs news := by
  obtain ⟨hxl, ho⟩ := ho
  rcases ho with ⟨rfl, rfl⟩ | ⟨g, cap, cur, rfl, h0, hg, hn, hcap, hcur, hxs⟩
  · have hx0 : xs = [] := List.length_eq_zero_iff.1 (by omega)
    subst hx0
    rcases Nat.eq_zero_or_pos m with hm | hm
    · subst hm
      have hnw : news = [] := List.length_eq_zero_iff.1 (by have := hs.newsLen; omega)
      subst hnw
      refine ⟨_, w, run_append_nothing w t tx ty e i ht hi none 0 0 (Nat.le_refl _) x hs, ⟨⟨by simp, .inl ⟨rfl, rfl⟩⟩, rfl, rfl, rfl, Nat.le_refl _, fun _ _ _ => rfl, fun g hg => (by cases hg), .inl rfl⟩⟩
    · obtain ⟨v', w', r1, r2, r3, r4⟩ := grow_src (ty := ty) w ht hi hz hzs hby none 0 0 [] (by simp) (run_firstCells_none w.drew i.size 0 0 0) hs (by omega) hle
      exact ⟨v', w', r1, ⟨r2, r3.os, r3.tape, r3.output, r3.size, fun k hk _ => r3.block k hk (fun h => h), fun g hg => (by cases hg), .inr r4⟩⟩
  · have hcn : n * i.size ≤ cap * i.size := Nat.mul_le_mul_right _ hn
    by_cases hroom : n + m ≤ cap
    · have hnm : (n + m) * i.size ≤ cap * i.size := Nat.mul_le_mul_right _ hroom
      have hnl := hs.newsLen
      rw [Nat.add_mul] at hnm
      have hthere := there_block (w := w) (o := n * i.size) (n := news.length) hg (by omega)
      have hrun := run_append_room_src (P := P) w t tx ty e i ht hi g 0 n cap x m news hs hroom (fun j hj => by rw [Nat.zero_add]; exact (hthere j hj).1) (fun j hj => by rw [Nat.zero_add]; exact (hthere j hj).2)
      rw [Nat.zero_add] at hrun
      have hset := setCells_parts (b := g) (t := e) news (n * i.size) w cur.toList (by simpa using hg) (by simp; omega)
      refine ⟨_, _, hrun, ⟨⟨by rw [List.length_append, hxl, hnl, Nat.add_mul], .inr ⟨g, cap, _, rfl, h0, hset.blk, hroom, hcap, by simp; omega, ?_⟩⟩, hset.os, hset.tape, hset.output, by rw [hset.size]; exact Nat.le_refl _, fun k _ hk => hset.other k fun e => hk (by rw [e]; rfl), ?_, .inl rfl⟩⟩
      · rw [hxs]
        have hl : (xs ++ news).length = (n + m) * i.size := by rw [List.length_append, hxl, hnl, Nat.add_mul]
        rw [← hl]
        exact List.take_left
      · intro g' hg' j hj
        cases hg'
        rw [cell_of_row _ g j _ e (0, 0) hset.blk, cell_of_row w g j cur e (0, 0) hg]
        simp only [List.getElem?_toArray]
        rw [List.append_assoc, List.getElem?_append_left (by simp; omega), List.getElem?_take, if_pos hj]
        simp
    · have hrow : ∀ j u, xs[j]? = some u → w.drew.cell? ((⟨g, 0, none⟩ : Addr).add j) = some u := by
        intro j u hj
        rw [Addr.add_mid, Nat.zero_add, World.cell?_drew, cell_of_row w g j cur e (0, 0) hg]
        rw [← hxs, List.getElem?_take] at hj
        split at hj
        · simpa using hj
        · cases hj
      obtain ⟨v', w', r1, r2, r3, r4⟩ := grow_src (ty := ty) w ht hi hz hzs hby (some ⟨g, 0, none⟩) n cap xs hxl (run_firstCells_some w.drew i.size n ⟨g, 0, none⟩ n cap xs hxl hrow) hs (by omega) hle
      refine ⟨v', w', r1, ⟨r2, r3.os, r3.tape, r3.output, r3.size, fun k hk _ => r3.block k hk (fun h => h), fun g' hg' j hj => ?_, .inr r4⟩⟩
      cases hg'
      exact cell_of_block (r3.block g (Array.getElem?_eq_some_iff.1 hg).1 (fun h => h))
theorem sl_cells {w : World} {st : Stab} {fl : Bool} {sz n : Nat} {f : Nat → List AV} {v : Value} (h : PV w st (.sl fl sz n f) v) (hsz : 0 < sz) :
    ∃ newsV a c, newsV.length = n * sz ∧ All2 (PV w st) (elsOf n f).flatten newsV ∧ v = .slice a n c ∧ (fl = true → c = n) ∧ n ≤ c ∧ (0 < n → a ≠ none) ∧ (∀ A, a = some A → ∀ j u, newsV[j]? = some u → w.cell? (A.add j) = some u) ∧ ∀ x ∈ elsOf n f, x.length = sz := by
  obtain ⟨a, c, b, o, vals, rfl, q1, q2, q3, q4, q5, q6, q7, q8⟩ := R3_sl (ρ := fun _ => .blk 0) h
  have hlen : ∀ x ∈ elsOf n f, x.length = sz := fun x hx => by
    simp only [elsOf, List.mem_map, List.mem_range] at hx
    obtain ⟨i, hi, rfl⟩ := hx
    exact q5 i hi
  have hdiv : ∀ p, p < n * sz → p / sz < n ∧ p % sz < sz := fun p hp => ⟨Nat.div_lt_of_lt_mul (by rwa [Nat.mul_comm] at hp), Nat.mod_lt _ hsz⟩
  have hL : (elsOf n f).length = n := by simp [elsOf]
  refine ⟨(List.range (n * sz)).map fun p => vals (p / sz) (p % sz), a, c, by simp, ?_, rfl, q2, q1, fun hn => by rw [q4 hn]; simp, ?_, hlen⟩
  · refine All2.of_get (by rw [flatten_len hlen, hL]; simp) fun p x u hx hu => ?_
    simp only [List.getElem?_map, Option.map_eq_some_iff] at hu
    obtain ⟨q, hq, rfl⟩ := hu
    have hp : p < n * sz := by have := (List.getElem?_eq_some_iff.1 hq).1; simpa using this
    simp only [List.getElem?_range hp, Option.some.injEq] at hq
    subst hq
    obtain ⟨h1, h2⟩ := hdiv p hp
    have h3 := flatten_get (p / sz) (p % sz) hlen (by omega) h2
    rw [Nat.div_add_mod'] at h3
    rw [h3] at hx
    have h4 := q8 _ _ h1 h2
    have h5 : (elsOf n f).getD (p / sz) [] = f (p / sz) := by simp [elsOf, h1]
    rw [h5] at hx
    rw [List.getD_eq_getElem?_getD, hx] at h4
    exact h4
  · intro A hA j u hj
    simp only [List.getElem?_map, Option.map_eq_some_iff] at hj
    obtain ⟨q, hq, rfl⟩ := hj
    have hp : j < n * sz := by have := (List.getElem?_eq_some_iff.1 hq).1; simpa using this
    simp only [List.getElem?_range hp, Option.some.injEq] at hq
    subst hq
    obtain ⟨h1, h2⟩ := hdiv j hp
    have := q4 (Nat.lt_of_le_of_lt (Nat.zero_le _) h1)
    rw [this] at hA
    cases hA
    rw [Addr.add_mid]
    have := q6 _ _ h1 h2
    rwa [Nat.add_assoc, Nat.div_add_mod'] at this
end Go.Eng
end
section
set_option linter.unusedVariables false
set_option linter.unusedSimpArgs false
set_option linter.unusedSectionVars false
namespace Go.Eng
open Go
section
variable {X : Ctx} (hE : EnvOk X.E) {S : St} {a : Act} {w : World} {st : Stab} {ρ : Nat → Loc} (h : Rel X S a w st ρ) {o : Oper} (hd : ∀ d, o.dst = some d → d < X.N) {kd : Nat} {out : Out}
include hE h
theorem src_sound {esz t1 : Nat} (hpos : 0 < esz) {v : AV} {val : Value} (hv : R3 w st ρ v val) {news : List (List AV)} {kr : List Nat} (hs : srcOf S.H esz v (X.E.kind t1) = some (news, kr)) :
    ∃ newsV, Src X.E.P esz t1 val news.length newsV w ∧ All2 (PV w st) news.flatten newsV ∧ (∀ x ∈ news, x.length = esz) ∧ ∀ k, (∀ j, v = .row j → j ≠ k) → k ∉ kr := by
  unfold srcOf at hs
  split at hs
  · rename_i fl sz n f e' sz' hk
    simp only [cond_eq_ite] at hs
    split at hs
    · rename_i hc
      obtain rfl := beq_true hc
      simp only [Option.some.injEq, Prod.mk.injEq] at hs
      obtain ⟨rfl, rfl⟩ := hs
      have hu := (kind_slice hE.tok hk).1
      obtain ⟨newsV, a1, c, e1, e2, rfl, e3, e4, e5, e6, e7⟩ := sl_cells (show PV w st (.sl fl sz n f) val from hv) hpos
      have hL : (elsOf n f).length = n := by simp [elsOf]
      rw [hL]
      refine ⟨newsV, ?_, e2, e7, fun _ _ => by simp⟩
      cases a1 with
      | none =>
        have hn : n = 0 := by
          rcases Nat.eq_zero_or_pos n with h | h
          · exact h
          · exact absurd rfl (e5 h)
        subst hn
        have : newsV = [] := List.length_eq_zero_iff.1 (by omega)
        rw [this]
        exact Src.ofNil w hu c
      | some A => exact Src.ofSlice w hu A n c newsV e1 (e6 A rfl) (fun u hu => by
          obtain ⟨i, hi⟩ := List.getElem?_of_mem hu
          obtain ⟨b, _, hb⟩ := e2.get' hi
          exact hb.one)
    · cases hs
  · rename_i e' sz' hk
    simp only [Option.some.injEq, Prod.mk.injEq] at hs
    obtain ⟨rfl, rfl⟩ := hs
    rw [R3_nilS hv]
    exact ⟨[], Src.ofNil w (kind_slice hE.tok hk).1 0, .nil, by simp, fun _ _ => by simp⟩
  · rename_i k e' sz' hk
    obtain ⟨a1, n1, c1, hvv, hloc⟩ : ∃ a n c, val = Value.slice a n c ∧ ρ k = .rowv val := hv
    have hu := (kind_slice hE.tok hk).1
    split at hs
    · rename_i e1 sz els p hH
      simp only [cond_eq_ite] at hs
      split at hs
      · rename_i hc
        obtain rfl := beq_true hc
        simp only [Option.some.injEq, Prod.mk.injEq] at hs
        obtain ⟨rfl, rfl⟩ := hs
        have hB := h.heap k _ hH
        rw [hloc] at hB
        obtain ⟨vals, ⟨q1, q2⟩, q3, q4, _⟩ := hB
        refine ⟨vals, ?_, q3, q4, fun k' hk' => by simpa using fun e => hk' k rfl e.symm⟩
        rcases q2 with ⟨rfl, q5⟩ | ⟨g, cap, cur, rfl, q5, q6, q7, q8, q9, q10⟩
        · have : vals = [] := List.length_eq_zero_iff.1 (by rw [q1, q5]; simp)
          rw [this, q5]
          exact Src.ofNil w hu 0
        · refine Src.ofSlice w hu ⟨g, 0, none⟩ els.length cap vals q1 (fun j u hj => ?_) (fun u hu => by
            obtain ⟨i, hi⟩ := List.getElem?_of_mem hu
            obtain ⟨b, _, hb⟩ := q3.get' hi
            exact hb.one)
          rw [Addr.add_mid, Nat.zero_add, cell_of_row w g j cur e1 (0, 0) q6]
          rw [← q10, List.getElem?_take] at hj
          split at hj
          · simpa using hj
          · cases hj
      · cases hs
    · rename_i e1 sz els hH
      simp only [cond_eq_ite] at hs
      split at hs
      · rename_i hc
        obtain rfl := beq_true hc
        simp only [Option.some.injEq, Prod.mk.injEq] at hs
        obtain ⟨rfl, rfl⟩ := hs
        have hB := h.heap k _ hH
        rw [hloc] at hB
        obtain ⟨g, arr, rfl, q1, q2, q3, q4, q5⟩ := hB
        have hl := q2.length
        have hL := flatten_len q3
        refine ⟨arr.toList, ?_, q2, q3, fun k' hk' => by simpa using fun e => hk' k rfl e.symm⟩
        refine Src.ofSlice w hu ⟨g, 0, none⟩ els.length els.length arr.toList (by omega) (fun j u hj => ?_) (fun u hu => by
            obtain ⟨i, hi⟩ := List.getElem?_of_mem hu
            obtain ⟨b, _, hb⟩ := q2.get' hi
            exact hb.one)
        rw [Addr.add_mid, Nat.zero_add, cell_of_row w g j arr e1 (0, 0) q1]
        simpa using hj
      · cases hs
    · cases hs
  · rename_i s hk
    simp only [cond_eq_ite] at hs
    split at hs
    · rename_i hc
      obtain rfl := beq_true hc
      simp only [Option.some.injEq, Prod.mk.injEq] at hs
      obtain ⟨rfl, rfl⟩ := hs
      rw [R3_str hv]
      have hb : (⟨s.toArray⟩ : ByteArray).size = s.length := by simp [ByteArray.size]
      refine ⟨byteCells ⟨s.toArray⟩, ?_, ?_, ?_, fun _ _ => by simp⟩
      · have := Src.ofString (P := X.E.P) w (kind_string hE.tok hk) ⟨s.toArray⟩
        rw [hb] at this
        rwa [List.length_map]
      · simp only [byteCells]
        clear hk hpos hb hv
        induction s with
        | nil => exact .nil
        | cons b s ih => exact .cons (PV.int ..) ih
      · intro x hx
        obtain ⟨b, _, rfl⟩ := List.mem_map.1 hx
        rfl
    · cases hs
  · cases hs
include hd
variable {t0 t1 e : Nat} {inf : TypeInfo} {z : Value} (hu : X.E.P.underlying t0 = some (.slice e)) (q1 : X.E.P.info? e = some inf) (q6 : inf.zero = some z) (hzs : z.cells.size = inf.size) (q8 : inf.bytes ≤ 1048576) (hpos : 0 < inf.size)
  {x y : Operand} (hrunOf : ∀ {val : Value} {w' : World}, (Builtin.append_ #[t0, t1] o.type #[a.eval x, a.eval y]).run X.E.P w = .ok val w' → (execOp a.eval o).run X.E.P w = .ok (.value val) w')
  (hfree : S.H kd = none) {news : List (List AV)} {kr : List Nat} (hsrc : srcOf S.H inf.size (opnd X.E S.slot y) (X.E.kind t1) = some (news, kr))
include hu q1 q6 hzs q8 hrunOf hfree hsrc hpos
theorem append_nil (hxx : opnd X.E S.slot x = .nilS) (hlen : news.length ≤ 1048576) : StepTo X o a w ⟨putO S.slot o.dst (.row kd), upd S.H kd (some (.row e inf.size news false))⟩ := by
  obtain ⟨newsV, s1, s2, s3, _⟩ := src_sound hE h hpos (opnd_rel h y) hsrc
  have hx := opnd_rel h x
  rw [hxx] at hx
  rw [R3_nilS hx] at hrunOf
  obtain ⟨v', w', r1, r2⟩ := append_own_src (ty := o.type) w hu q1 q6 hzs q8 (v := .slice none 0 0) (n := 0) (xs := []) ⟨by simp, .inl ⟨rfl, rfl⟩⟩ s1 (by omega)
  have hown := r2.owns
  rw [List.nil_append, Nat.zero_add] at hown
  refine row_step hE h hd hfree ⟨r2.os, r2.tape, r2.output, r2.grows, fun k hk _ => r2.other k hk (by simp [Value.ownBlock])⟩ hown (fun g hg => ?_) s2 s3 (kr := kr) (hrunOf r1)
  rcases r2.blk with hb | hb
  · rw [hb] at hg; cases hg
  · exact hb g hg
theorem append_sl {n : Nat} {f : Nat → List AV} (hxx : opnd X.E S.slot x = .sl true inf.size n f) (hm : 0 < news.length) (hlen : n + news.length ≤ 1048576) : StepTo X o a w ⟨putO S.slot o.dst (.row kd), upd S.H kd (some (.row e inf.size (elsOf n f ++ news) false))⟩ := by
  obtain ⟨newsV, s1, s2, s3, _⟩ := src_sound hE h hpos (opnd_rel h y) hsrc
  have hx := opnd_rel h x
  rw [hxx] at hx
  obtain ⟨oldV, a1, c, e1, e2, e3, e4, e5, e6, e7, e8⟩ := sl_cells (show PV w st (.sl true inf.size n f) _ from hx) hpos
  rw [e4 rfl] at e3
  rw [e3] at hrunOf
  have hold : (Builtin.firstCells inf.size n (.slice a1 n n)).run X.E.P w.drew = .ok oldV.toArray w.drew := by
    cases a1 with
    | none =>
      have hn : n = 0 := by
        rcases Nat.eq_zero_or_pos n with h | h
        · exact h
        · exact absurd rfl (e6 h)
      have : oldV = [] := List.length_eq_zero_iff.1 (by rw [e1, hn]; simp)
      rw [this]
      exact run_firstCells_none w.drew inf.size n n n
    | some A => exact run_firstCells_some w.drew inf.size n A n n oldV e1 (fun j u hj => by rw [World.cell?_drew]; exact e7 A rfl j u hj)
  obtain ⟨v', w', r1, r2, r3, r4⟩ := grow_src (ty := o.type) w hu q1 q6 hzs q8 a1 n n oldV e1 hold s1 (by omega) hlen
  have hL : (elsOf n f).length = n := by simp [elsOf]
  refine row_step hE h hd (els := elsOf n f ++ news) hfree r3 (by rw [List.length_append, hL]; exact r2) r4 (by rw [List.flatten_append]; exact e2.append s2) (fun x hx => ?_) (kr := kr) (hrunOf r1)
  rcases List.mem_append.1 hx with hx | hx
  · exact e8 x hx
  · exact s3 x hx
theorem append_row {k : Nat} {els : List (List AV)} {p : Bool} (hxx : opnd X.E S.slot x = .row k) (hH : S.H k = some (.row e inf.size els p)) (hlen : els.length + news.length ≤ 1048576) :
    StepTo X o a w ⟨putO S.slot o.dst (.row kd), upd (upd S.H k (some .dead)) kd (some (.row e inf.size (els ++ news) p))⟩ := by
  obtain ⟨newsV, s1, s2, s3, _⟩ := src_sound hE h hpos (opnd_rel h y) hsrc
  have hx := opnd_rel h x
  rw [hxx] at hx
  obtain ⟨a1, n1, c1, hvv, hloc⟩ : ∃ a n c, _ = Value.slice a n c ∧ ρ k = .rowv _ := hx
  have hB := h.heap k _ hH
  rw [hloc] at hB
  obtain ⟨vals, b1, b2, b3, b4⟩ := hB
  obtain ⟨v', w', r1, r2⟩ := append_own_src (ty := o.type) w hu q1 q6 hzs q8 b1 s1 hlen
  have hbk : blkOf (S.H k) (ρ k) = (a.eval x).ownBlock := by rw [hH, hloc]; rfl
  have hkd : k ≠ kd := fun e => by rw [e, hfree] at hH; cases hH
  have hL := flatten_len b3
  have hkeep : Keep st w w' := fun b o hs => by
    by_cases hb : (a.eval x).ownBlock = some b
    · have := (b4 b hb o hs).2
      exact r2.cells b hb o this
    · exact cell_of_block (r2.other b (h.sta.lt hs) fun e => hb e.symm)
  have hne : ∀ k', (S.H k').isSome = true → k' ≠ kd := fun k' hk e => by subst e; rw [hfree] at hk; cases hk
  have hdom : ∀ j, (S.H j).isSome = true → (upd (upd S.H k (some Blk.dead)) kd (some (Blk.row e inf.size (els ++ news) p)) j).isSome = true := fun j hj => by
    rw [upd_other _ _ (hne j hj)]
    by_cases hjk : j = k
    · subst hjk; rw [upd_same]; rfl
    · rw [upd_other _ _ hjk]; exact hj
  have hbo : ∀ j x', blkOf (upd (upd S.H k (some Blk.dead)) kd (some (Blk.row e inf.size (els ++ news) p)) j) (upd ρ kd (.rowv v') j) = some x' →
      (j = kd ∧ v'.ownBlock = some x') ∨ (j ≠ kd ∧ j ≠ k ∧ blkOf (S.H j) (ρ j) = some x' ∧ x' < w.heap.size) := by
    intro j x' hj
    by_cases hjd : j = kd
    · subst hjd; rw [upd_same, upd_same] at hj; exact .inl ⟨rfl, hj⟩
    · rw [upd_other _ _ hjd, upd_other _ _ hjd] at hj
      by_cases hjk : j = k
      · subst hjk; rw [upd_same] at hj; cases hl : ρ j <;> rw [hl] at hj <;> cases hj
      · rw [upd_other _ _ hjk] at hj
        refine .inr ⟨hjd, hjk, hj, ?_⟩
        cases hB : S.H j with
        | none => rw [hB] at hj; cases hl : ρ j <;> rw [hl] at hj <;> cases hj
        | some B1 => rw [hB] at hj; exact blkOf_lt (h.heap j B1 hB) hj
  have hv'b : ∀ x', v'.ownBlock = some x' → blkOf (S.H k) (ρ k) = some x' ∨ w.heap.size ≤ x' := fun x' hx' => by
    rcases r2.blk with hb | hb
    · rw [hb] at hx'; rw [hbk]; exact .inl hx'
    · exact .inr (hb x' hx')
  refine .value (hrunOf r1) (h.step (st' := st) (ρ' := upd ρ kd (.rowv v')) (H' := upd (upd S.H k (some .dead)) kd (some (.row e inf.size (els ++ news) p))) o.dst (.row kd) v' r2.os r2.tape r2.output r2.grows
    (fun b hb hn => r2.other b hb fun e => hn k (by rw [hbk, e])) hkeep (fun _ _ h => h) (fun _ _ _ _ h => h) (h.sta.keep r2.grows) (fun j hj => upd_other _ _ (hne j hj)) ?_ ?_ ?_ hdom ?_ (fun _ _ => ?_) (fun _ _ k' hk' => ?_) hd)
  · intro j B1 hj
    by_cases hjd : j = kd
    · subst hjd
      rw [upd_same] at hj ⊢
      cases hj
      refine ⟨vals ++ newsV, by rw [List.length_append]; exact r2.owns, ?_, fun x hx => ?_, fun g hg o ho => ?_⟩
      · rw [List.flatten_append]; exact (b2.append s2).mono fun _ _ h => h.mono (fun _ _ h => h) hkeep
      · rcases List.mem_append.1 hx with hx | hx
        · exact b3 x hx
        · exact s3 x hx
      · rcases r2.blk with hb | hb
        · rw [hb] at hg
          obtain ⟨h1, h2⟩ := b4 g hg o ho
          refine ⟨h1, Nat.lt_of_lt_of_le h2 (Nat.mul_le_mul_right _ (by simp))⟩
        · exact absurd (h.sta.lt ho) (by have := hb g hg; omega)
    · rw [upd_other _ _ hjd] at hj ⊢
      by_cases hjk : j = k
      · subst hjk; rw [upd_same] at hj; cases hj; trivial
      · rw [upd_other _ _ hjk] at hj
        have h0 := h.heap j B1 hj
        refine h0.keep (fun x' hx' => ⟨r2.other x' (blkOf_lt h0 hx') fun e => ?_, fun o ho => ho⟩) (fun _ _ h => h) hkeep
          (fun cs fz hB c hc k' hk' => by subst hB; exact upd_other _ _ (hne k' (h.kinH j cs fz hj c hc k' hk')))
        exact hjk (h.apart j k x' (by rw [hj]; exact hx') (by rw [hbk, e]))
  · intro j x' hj
    rcases hbo j x' hj with ⟨_, hx'⟩ | ⟨_, _, hx', _⟩
    · rcases hv'b x' hx' with h1 | h1
      · exact h.mine k x' h1
      · exact .inl (Nat.le_trans h.ev.size h1)
    · exact h.mine j x' hx'
  · intro j j' x' hj hj'
    rcases hbo j x' hj with ⟨h1, h2⟩ | ⟨h1, h2, h3, h4⟩ <;> rcases hbo j' x' hj' with ⟨g1, g2⟩ | ⟨g1, g2, g3, g4⟩
    · rw [h1, g1]
    · rcases hv'b x' h2 with h5 | h5
      · exact absurd (h.apart j' k x' g3 h5) g2
      · omega
    · rcases hv'b x' g2 with h5 | h5
      · exact absurd (h.apart j k x' h3 h5) h2
      · omega
    · exact h.apart j j' x' h3 g3
  · intro j cs fz hj c hc k' hk'
    by_cases hjd : j = kd
    · subst hjd; rw [upd_same] at hj; cases hj
    · rw [upd_other _ _ hjd] at hj
      by_cases hjk : j = k
      · subst hjk; rw [upd_same] at hj; cases hj
      · rw [upd_other _ _ hjk] at hj; exact hdom k' (h.kinH j cs fz hj c hc k' hk')
  · rcases r2.owns.2 with ⟨rfl, _⟩ | ⟨g, cap, cur, rfl, _⟩
    · exact ⟨none, 0, 0, rfl, by rw [upd_same]⟩
    · exact ⟨_, _, _, rfl, by rw [upd_same]⟩
  · simp only [keysT, keys, keys1, List.mem_singleton] at hk'
    subst hk'
    rw [upd_same]; rfl
end
section
variable {X : Ctx} (hE : EnvOk X.E) {S : St} {a : Act} {w : World} {st : Stab} {ρ : Nat → Loc} (h : Rel X S a w st ρ) {o : Oper} (hd : ∀ d, o.dst = some d → d < X.N) {kd : Nat} {out : Out}
include hE h hd
theorem append_mem {args : Array Operand} {at_ : Array TypeId} (hop : o.op = .call { callee := .builtin .append, args, argTypes := at_ }) (hr : (memOp X.E S.H (opnd X.E S.slot) kd (.call { callee := .builtin .append, args, argTypes := at_ })).run = some out) : StepTo X o a w ⟨putO S.slot o.dst out.v, applyW S.H out.w⟩ := by
  simp only [memOp] at hr
  split at hr
  · rename_i x y t0 t1 hargs hat
    have hat' : at_ = #[t0, t1] := by apply Array.toList_inj.1; rw [hat]
    subst hat'
    have hav : args.map a.eval = #[a.eval x, a.eval y] := by apply Array.toList_inj.1; rw [Array.toList_map, hargs]; rfl
    have hrunOf : ∀ {val : Value} {w' : World}, (Builtin.append_ #[t0, t1] o.type #[a.eval x, a.eval y]).run X.E.P w = .ok val w' → (execOp a.eval o).run X.E.P w = .ok (.value val) w' := fun hr => by
      simp only [execOp, hop, resolve, Sem.run_bind, Sem.run_pure, Result.andThen_ok, invoke, hav]
      exact run_value hr
    split at hr
    · rename_i e esz hk
      obtain ⟨hu, hz⟩ := kind_slice hE.tok hk
      simp only [cond_eq_ite] at hr
      split at hr
      · rename_i hc
        simp only [Bool.and_eq_true] at hc
        obtain ⟨⟨c1, c2⟩, c3⟩ := hc
        have c1 := nbeq c1
        have c3 := beq_true c3
        have hfree := free_of hE h hd c2
        have hti : ∃ ti, X.E.ti e = some ti := by
          unfold Env.zero at c3
          split at c3
          · exact ⟨_, ‹_›⟩
          · simp at c3; omega
        obtain ⟨ti, hti⟩ := hti
        obtain ⟨inf, d, q1, q2, q3, q4, q5, ⟨z, q6, q7⟩, _, q8⟩ := ti_parts' hE.tok hti
        obtain ⟨inf', z', p1, p2, p3, p4⟩ := zero_rel hE hti w st ρ
        rw [q1] at p1; cases p1
        rw [q6] at p2; cases p2
        have hzero : X.E.zero e = ti.zero := by simp [Env.zero, hti]
        rw [← hzero] at p3
        have hsz : esz = inf.size := by rw [← hz]; simp [szP, q1]
        subst hsz
        have hzs : z.cells.size = inf.size := by have := p3.length; simp at this; omega
        have hpos : 0 < inf.size := by omega
        clear hti p3 p4 hzero
        split at hr
        · rename_i news kr hsrc hxx
          obtain ⟨hlen, hr⟩ := Tr.run_need hr
          obtain rfl := Tr.run_ret hr
          exact append_nil hE h hd hu q1 q6 hzs q8 hpos hrunOf hfree hsrc hxx hlen
        · rename_i news kr sz n f hsrc hxx
          split at hr
          · rename_i hb
            obtain rfl := beq_true hb
            obtain ⟨⟨hm, hlen⟩, hr⟩ := Tr.run_need hr
            obtain rfl := Tr.run_ret hr
            exact append_sl hE h hd hu q1 q6 hzs q8 hpos hrunOf hfree hsrc hxx hm hlen
          · exact (Tr.run_fail hr).elim
        · rename_i news kr k hsrc hxx
          split at hr
          · rename_i e' sz els p hH
            split at hr
            · exact (Tr.run_fail hr).elim
            · rename_i hcc
              simp only [Bool.or_eq_true, not_or, Bool.not_eq_true', Bool.not_eq_false] at hcc
              obtain ⟨⟨hc1, hc2⟩, hc3⟩ := hcc
              obtain rfl := beq_true (by simpa using hc1)
              obtain rfl := beq_true (by simpa using hc2)
              obtain ⟨hlen, hr⟩ := Tr.run_need hr
              obtain rfl := Tr.run_ret hr
              exact append_row hE h hd hu q1 q6 hzs q8 hpos hrunOf hfree hsrc hxx hH hlen
          · exact (Tr.run_fail hr).elim
        · exact (Tr.run_fail hr).elim
      · exact (Tr.run_fail hr).elim
    · exact (Tr.run_fail hr).elim
  · exact (Tr.run_fail hr).elim
end
end Go.Eng
end
section
set_option linter.unusedVariables false
set_option linter.unusedSimpArgs false
set_option linter.unusedSectionVars false
namespace Go.Eng
open Go
def noρ : Nat → Loc := fun _ => .blk 0
def ResOk (w w' : World) (st' : Stab) : AV → Value → Prop
  | .fresh e sz els, v => ∃ vals, w'.ownsRow 0 e sz v els.length vals ∧ All2 (PV w' st') els.flatten vals ∧ (∀ x ∈ els, x.length = sz) ∧ ∀ g, v.ownBlock = some g → w.heap.size ≤ g ∧ ∀ o, ¬ st' g o
  | r, v => persT r = true → R3 w' st' noρ r v
def GlobOk (G : Nat → AV) (w : World) (st : Stab) : Prop := ∀ g, G g = .any ∨ PV w st (G g) (.pointer (some ⟨g, 0, none⟩))
def FnRuns (P : Program) (f : Nat) (vals : Array Value) (w : World) (R : Value → World → Prop) : Prop :=
  ((callFunc f vals).run P w = .ok (.enter f vals) w ∧ Calls P f vals w fun e w' => ∃ v, e = .returned v ∧ R v w') ∨ ∃ v w', (callFunc f vals).run P w = .ok (.value v) w' ∧ R v w'
def FnOk (P : Program) (G : Nat → AV) (f : Nat) (C : Con) : Prop :=
  ∀ (as : List AV) (r : AV), (C as).run = some r → as.all pers = true → ∀ (w : World) (st : Stab) (vals : List Value), Sta w st → GlobOk G w st → All2 (R2 w st noρ) as vals →
    FnRuns P f vals.toArray w fun v w' => ∃ st', Ev (fun _ => False) w w' ∧ (∀ b o, st b o → st' b o) ∧ (∀ b o, b < w.heap.size → st' b o → st b o) ∧ Sta w' st' ∧ ResOk w w' st' r v
def ConsOk (E : Env) : Prop := ∀ p ∈ E.Γ, FnOk E.P E.G p.1 p.2
theorem R2_keys {w : World} {st : Stab} {ρ ρ' : Nat → Loc} {a : AV} {v : Value} (hp : pers a = true) (h : R2 w st ρ a v) : R2 w st ρ' a v := R2_rho (fun k hk => by rw [keys_pers hp] at hk; cases hk) h
theorem R3_keys {w : World} {st : Stab} {ρ ρ' : Nat → Loc} {a : AV} {v : Value} (hp : persT a = true) (h : R3 w st ρ a v) : R3 w st ρ' a v := R3_rho (fun k hk => by rw [keysT_pers hp] at hk; cases hk) h
theorem scal_PV {w w' : World} {st st' : Stab} {a : AV} {v : Value} (hs : scal1 a = true) (h : PV w st a v) : PV w' st' a v := by
  cases h <;> first | (simp [scal1] at hs; done) | constructor
theorem scal_R1 {w w' : World} {st st' : Stab} {ρ ρ' : Nat → Loc} {a : AV} {v : Value} (hs : scal1 a = true) (h : R1 w st ρ a v) : R1 w' st' ρ' a v := by
  by_cases ha : a = .any
  · subst ha; trivial
  · have hp : pers1 a = true := by cases a <;> first | rfl | exact absurd rfl ha | cases hs
    exact R1_of_PV (scal_PV hs (R1_pers_PV hp h))
theorem scal_R2 {w w' : World} {st st' : Stab} {ρ ρ' : Nat → Loc} {a : AV} {v : Value} (hs : scal a = true) (h : R2 w st ρ a v) : R2 w' st' ρ' a v := by
  cases a <;> first | (simp only [scal] at hs; simp only [R2] at h ⊢; exact scal_R1 hs h) | skip
  case agg l =>
    obtain ⟨cs, e, h1, h2⟩ := h
    exact ⟨cs, e, h1.mono_mem fun a b ha hr => scal_R1 ((List.all_eq_true.1 hs) a ha) hr, h2⟩
  all_goals cases hs
theorem scal_R3 {w w' : World} {st st' : Stab} {ρ ρ' : Nat → Loc} {a : AV} {v : Value} (hs : scalT a = true) (h : R3 w st ρ a v) : R3 w' st' ρ' a v := by
  cases a <;> first | (simp only [scalT] at hs; simp only [R3] at h ⊢; exact scal_R2 hs h) | skip
  case tup l =>
    obtain ⟨cs, e, h1⟩ := h
    exact ⟨cs, e, h1.mono_mem fun a b ha hr => scal_R2 ((List.all_eq_true.1 hs) a ha) hr⟩
theorem R1_R2 {w : World} {st : Stab} {ρ : Nat → Loc} {a : AV} {v : Value} (h : R1 w st ρ a v) : R2 w st ρ a v := by
  cases a <;> first | exact h | exact h.elim
section
variable {X : Ctx} (hE : EnvOk X.E) {S : St} {a : Act} {w : World} {st : Stab} {ρ : Nat → Loc} (h : Rel X S a w st ρ) {o : Oper} (hd : ∀ d, o.dst = some d → d < X.N) {kd : Nat} {out : Out}
include h
theorem view1_rel {F : Nat → Bool} {v : AV} {val : Value} (hv : R1 w st ρ v val) (hF : ∀ k ∈ keys1 v, F k = true) : R1 w (stF st S.H ρ F) ρ (view1 S.H v) val := by
  have h1 := hv.mono (w' := w) (st' := stF st S.H ρ F) (fun _ _ h => .inl h) (Keep.refl _ _)
  cases v <;> first | exact h1 | skip
  rename_i k
  simp only [view1]
  split
  · rename_i e sz els p hH
    obtain ⟨a1, n1, c1, hvv, hloc⟩ := hv
    have hB := h.heap k _ hH
    rw [hloc] at hB
    exact R1_of_PV (row_PV hB (fun _ _ h => .inl h) (fun g hg o ho => .inr ⟨k, _, hF k (by simp [keys1]), hH, by rw [hloc]; exact hg, ho⟩))
  · trivial
theorem view_rel {F : Nat → Bool} {v : AV} {val : Value} (hv : R3 w st ρ v val) (hF : ∀ k ∈ keys v, F k = true) (hp : pers (view S.H v) = true) : R2 w (stF st S.H ρ F) ρ (view S.H v) val := by
  cases v <;> first | (exact hv.elim) | skip
  case agg l =>
    obtain ⟨cs, e, h1, h2⟩ := hv
    exact ⟨cs, e, All2.map_left (h1.mono_mem fun a b ha hr => view1_rel h hr fun k hk => hF k (by simp only [keys, List.mem_flatMap]; exact ⟨a, ha, hk⟩)), h2⟩
  case tup l => cases hp
  case clo f l => exact (show R2 w st ρ (.clo f l) val from hv).mono (fun _ _ h => .inl h) (Keep.refl _ _)
  case ifc t v => exact (show R2 w st ρ (.ifc t v) val from hv).mono (fun _ _ h => .inl h) (Keep.refl _ _)
  all_goals (simp only [R3, R2] at hv; simp only [view]; exact R1_R2 (view1_rel h hv hF))
omit h in
theorem sl_congr {w : World} {st : Stab} {fl : Bool} {sz n : Nat} {f f' : Nat → List AV} {v : Value} (hv : PV w st (.sl fl sz n f) v) (hf : ∀ i, i < n → f' i = f i) : PV w st (.sl fl sz n f') v := by
  obtain ⟨a, c, b, o, vals, rfl, q1, q2, q3, q4, q5, q6, q7, q8⟩ := R3_sl (ρ := fun _ => .blk 0) (show R3 w st (fun _ => .blk 0) (.sl fl sz n f) v from hv)
  exact PV.sl fl sz n c f' a b o vals q1 q2 q3 q4 (fun i hi => by rw [hf i hi]; exact q5 i hi) q6 q7 (fun i j hi hj => by rw [hf i hi]; exact q8 i j hi hj)
omit h in
theorem needC_run {α : Type} {E : Env} {H : Nat → Option Blk} {t : Tr α} {out : α} : ∀ {ks : List Nat}, (needC E H ks t).run = some out →
    (∀ k ∈ ks, ∀ e sz els p, H k = some (.row e sz els p) → ∀ i, i < els.length → likes (E.zero e) (els.getD i []) = els.getD i []) ∧ t.run = some out
  | [], hr => ⟨fun _ hk => (by cases hk), hr⟩
  | k :: r, hr => by
    unfold needC at hr
    split at hr
    · rename_i e sz els p hH
      obtain ⟨hn, hr⟩ := Tr.run_need hr
      obtain ⟨h1, h2⟩ := needC_run hr
      refine ⟨fun k' hk' e' sz' els' p' hH' => ?_, h2⟩
      rcases List.mem_cons.1 hk' with rfl | hk'
      · rw [hH] at hH'
        cases hH'
        exact hn
      · exact h1 k' hk' e' sz' els' p' hH'
    · exact (Tr.run_fail hr).elim
def Canon (E : Env) (H : Nat → Option Blk) (v : AV) : Prop := ∀ k ∈ keys v, ∀ e sz els p, H k = some (.row e sz els p) → ∀ i, i < els.length → likes (E.zero e) (els.getD i []) = els.getD i []
theorem viewC1_rel {E : Env} {F : Nat → Bool} {v : AV} {val : Value} (hv : R1 w st ρ v val) (hF : ∀ k ∈ keys1 v, F k = true)
    (hcan : ∀ k ∈ keys1 v, ∀ e sz els p, S.H k = some (.row e sz els p) → ∀ i, i < els.length → likes (E.zero e) (els.getD i []) = els.getD i []) : R1 w (stF st S.H ρ F) ρ (viewC1 E S.H v) val := by
  have h1 := view1_rel h hv hF
  cases v <;> first | exact h1 | skip
  rename_i k
  simp only [view1] at h1
  simp only [viewC1]
  split
  · rename_i e sz els p hH
    rw [hH] at h1
    exact R1_of_PV (sl_congr (f := fun i => els.getD i []) h1 (fun i hi => hcan k (by simp [keys1]) e sz els p hH i hi))
  · trivial
theorem viewC_rel {E : Env} {F : Nat → Bool} {v : AV} {val : Value} (hv : R3 w st ρ v val) (hF : ∀ k ∈ keys v, F k = true) (hcan : Canon E S.H v) (hc : cellsOk (viewC E S.H v) = true) : R3 w (stF st S.H ρ F) ρ (viewC E S.H v) val := by
  have up : ∀ a, R1 w (stF st S.H ρ F) ρ a val → R3 w (stF st S.H ρ F) ρ a val := fun a h => by cases a <;> first | exact h | exact h.elim
  cases v <;> first | (exact hv.elim) | (cases hc; done) | skip
  case agg l =>
    obtain ⟨cs, e, h1, h2⟩ := hv
    exact ⟨cs, e, All2.map_left (h1.mono_mem fun a b ha hr => viewC1_rel h hr (fun k hk => hF k (by simp only [keys, List.mem_flatMap]; exact ⟨a, ha, hk⟩)) (fun k hk => hcan k (by simp only [keys, List.mem_flatMap]; exact ⟨a, ha, hk⟩))), h2⟩
  all_goals (simp only [R3, R2] at hv; simp only [viewC]; exact up _ (viewC1_rel h hv hF hcan))
omit h in
theorem parts_rel2 {st : Stab} {f : Operand → AV} {g : Operand → Value} : ∀ {ps : List (Nat × Operand)}, (∀ p ∈ ps, R3 w st ρ (f p.2) (g p.2)) → ps.all (fun p => cellsOk (f p.2)) = true →
    All2 (fun (p : Nat × AV) (q : Nat × Value) => p.1 = q.1 ∧ All2 (R1 w st ρ) (cellsOf p.2) q.2.cells.toList) (ps.map fun p => (p.1, f p.2)) (ps.map fun p => (p.1, g p.2)) ∧
    ∀ q ∈ ps.map (fun p => (p.1, g p.2)), ∀ x ∈ q.2.cells.toList, x.oneCell' = true
  | [], _, _ => ⟨.nil, by simp⟩
  | p :: ps, ho, hall => by
    simp only [List.all_cons, Bool.and_eq_true] at hall
    obtain ⟨h1, h2⟩ := parts_rel2 (fun q hq => ho q (by simp [hq])) hall.2
    obtain ⟨h3, h4⟩ := cells_rel hall.1 (ho p (by simp))
    refine ⟨.cons ⟨rfl, h3⟩ h1, ?_⟩
    intro q hq
    simp only [List.map_cons, List.mem_cons] at hq
    rcases hq with rfl | hq
    · exact h4
    · exact h2 q hq
omit h in
theorem view1_row {H : Nat → Option Blk} {v : AV} (hp : pers1 (view1 H v) = true) : ∀ k ∈ keys1 v, ∃ e sz els p, H k = some (.row e sz els p) := by
  intro k hk
  cases v <;> first | (cases hk; done) | skip
  case row k' =>
    simp only [keys1, List.mem_singleton] at hk
    subst hk
    simp only [view1] at hp
    split at hp
    · exact ⟨_, _, _, _, ‹_›⟩
    · cases hp
  all_goals (simp [view1, pers1] at hp)
omit h in
theorem view_row {H : Nat → Option Blk} {v : AV} (hp : pers (view H v) = true) : ∀ k ∈ keys v, ∃ e sz els p, H k = some (.row e sz els p) := by
  intro k hk
  cases v <;> first | (cases hk; done) | (simp [view, view1, pers, pers1] at hp; done) | skip
  case agg l =>
    simp only [view, pers, List.all_map, List.all_eq_true] at hp
    simp only [keys, List.mem_flatMap] at hk
    obtain ⟨c, hc, hk⟩ := hk
    exact view1_row (hp c hc) k hk
  case row k' =>
    refine view1_row (v := .row k') ?_ k hk
    simp only [view, view1] at hp ⊢
    split at hp
    · rfl
    · cases hp
  case clo f l =>
    rw [keys_pers (by simpa only [view, view1] using hp)] at hk; cases hk
  case ifc t v =>
    rw [keys_pers (by simpa only [view, view1] using hp)] at hk; cases hk
include hE hd
theorem buildSlice_mem {t n : Nat} {parts : Array (Nat × Operand)} (hop : o.op = .buildSlice t n parts) (hr : (memOp X.E S.H (opnd X.E S.slot) kd (.buildSlice t n parts)).run = some out) : StepTo X o a w ⟨putO S.slot o.dst out.v, applyW S.H out.w⟩ := by
  simp only [memOp] at hr
  split at hr
  · rename_i e esz hk
    obtain ⟨hu, hz⟩ := kind_slice hE.tok hk
    generalize hks : parts.toList.flatMap (fun p => keys (opnd X.E S.slot p.2)) = ks at hr
    simp only [cond_eq_ite] at hr
    split at hr
    · rename_i hcc
      simp only [Bool.and_eq_true] at hcc
      obtain ⟨⟨⟨⟨⟨c1, c2⟩, c3⟩, c4⟩, c5⟩, c6⟩ := hcc
      have hrows : ∀ k ∈ ks, ∃ e sz els p, S.H k = some (.row e sz els p) := fun k hk => by
        have := (List.all_eq_true.1 c6) k hk
        unfold isRowK at this
        split at this
        · exact ⟨_, _, _, _, ‹_›⟩
        · cases this
      have h1 := h.freeze (fun k => ks.contains k)
      have hH : frzH S.H (fun k => ks.contains k) = applyW S.H (ks.filterMap (pinOf S.H)) := by
        refine frzH_eq (fun p hp => ?_) (fun k hk => ?_)
        · obtain ⟨k, hk, hm⟩ := List.mem_filterMap.1 hp
          unfold pinOf at hm
          split at hm
          · rename_i hH
            cases hm
            exact ⟨by simp [hH, frz], by simpa using hk⟩
          · cases hm
        · have hk : k ∈ ks := by simpa using hk
          obtain ⟨e, sz, els, p, hH⟩ := hrows k hk
          cases p with
          | true => exact .inr (by rw [hH]; rfl)
          | false =>
            refine .inl (List.mem_map.2 ⟨(k, .row e sz els true), List.mem_filterMap.2 ⟨k, hk, by simp [pinOf, hH]⟩, rfl⟩)
      have c5' : parts.toList.all (fun p => cellsOk (viewC X.E S.H (opnd X.E S.slot p.2))) = true := by simpa [List.all_map, Function.comp_def] using c5
      have hvv : (∀ k ∈ ks, ∀ e sz els p, S.H k = some (.row e sz els p) → ∀ i, i < els.length → likes (X.E.zero e) (els.getD i []) = els.getD i []) → ∀ p ∈ parts.toList, R3 w (stF st S.H ρ fun k => ks.contains k) ρ (viewC X.E S.H (opnd X.E S.slot p.2)) (a.eval p.2) := fun hcan p hp =>
        viewC_rel h (opnd_rel h p.2) (fun k hk => by
          rw [← hks]
          simp only [List.contains_eq_mem, List.mem_flatMap, decide_eq_true_eq]
          exact ⟨p, hp, hk⟩) (fun k hk => hcan k (by rw [← hks]; exact List.mem_flatMap.2 ⟨p, hp, hk⟩)) ((List.all_eq_true.1 c5') p hp)
      generalize stF st S.H ρ (fun k => ks.contains k) = st at h1 hvv
      rw [hH] at h1
      have c1 := nbeq c1
      have c2 := Nat.le_of_ble_eq_true c2
      have c3 := nbeq c3
      have c4 := beq_true c4
      split at hr
      · rename_i cs hfill
        split at hr
        · rename_i hall
          have hcan : ∀ k ∈ ks, ∀ e sz els p, S.H k = some (.row e sz els p) → ∀ i, i < els.length → likes (X.E.zero e) (els.getD i []) = els.getD i [] := by
            split at hr
            · split at hr
              · rename_i hfk
                simp only [Bool.and_eq_true] at hfk
                have : ks = [] := by simpa using hfk.2
                subst this
                intro k hk; cases hk
              · exact (Tr.run_fail hr).elim
            · exact (needC_run hr).1
          have hti : ∃ ti, X.E.ti e = some ti := by
            unfold Env.zero at c4
            split at c4
            · exact ⟨_, ‹_›⟩
            · simp at c4; omega
          obtain ⟨ti, hti⟩ := hti
          obtain ⟨inf, z, p1, p2, p3, p4⟩ := zero_rel hE hti w st ρ
          have hzero : X.E.zero e = ti.zero := by simp [Env.zero, hti]
          rw [← hzero] at p3
          have hsz : esz = inf.size := by rw [← hz]; simp [szP, p1]
          subst hsz
          have hzs : z.cells.size = inf.size := by have := p3.length; simp at this; omega
          have hne : X.E.zero e ≠ [] := fun e => by rw [e] at c4; simp at c4; omega
          obtain ⟨q1, q2⟩ := parts_rel2 (f := fun x => viewC X.E S.H (opnd X.E S.slot x)) (g := a.eval) (hvv hcan) c5'
          have hmade := made_rel p3 hne n
          rw [c4] at hmade
          obtain ⟨os, o1, o2, o3⟩ := fill_rel q1 hmade hfill
          rw [Array.toList_toArray'] at o1
          have hrun := run_buildSlice (P := X.E.P) w t e n (parts.map fun (x : Nat × Operand) => (x.1, a.eval x.2)) os.toArray inf z hu p1 p2 (by omega) (fun h0 => by rcases Nat.mul_eq_zero.1 h0 with h0 | h0 <;> omega) (by rw [← o1]; simp [madeCells])
          have hP : All2 (PV w st) cs os := o2.mono_mem fun c v hc hr => R1_pers_PV ((List.all_eq_true.1 hall) c hc) hr
          have hlen : cs.length = n * inf.size := by
            have : ∀ {ps : List (Nat × AV)} {cells out : List AV}, fill (fun i => some (i * inf.size, inf.size)) cells ps = some out → out.length = cells.length := by
              intro ps
              induction ps with
              | nil => intro cells out h; simp only [fill, Option.some.injEq] at h; rw [h]
              | cons p ps ih =>
                intro cells out h
                obtain ⟨i, v⟩ := p
                simp only [fill, cond_eq_ite] at h
                split at h
                · rename_i hc
                  simp only [Bool.and_eq_true] at hc
                  rw [ih h]
                  have := Nat.le_of_ble_eq_true hc.2
                  have h2 := beq_true hc.1
                  simp only [setRange, List.length_append, List.length_take, List.length_drop]
                  omega
                · cases h
            rw [this hfill, rep_length, c4]
          have hol := hP.length
          have hev := ev_alloc (fun _ => False) w (.cells os.toArray e)
          have hkeep : Keep st w (w.alloc (.cells os.toArray e)) := fun b o hs => cell_of_block (hev.block b (h1.sta.lt hs) (fun h => h))
          have hcell : ∀ o, o < n * inf.size → (w.alloc (.cells os.toArray e)).cell? ⟨w.heap.size, o, none⟩ = some (os.getD o undef) := fun o ho => by
            rw [cell_of_row _ _ o os.toArray e (0, 0) (heap_alloc_new w _)]
            rw [List.getD_eq_getElem?_getD]
            simp [show o < os.length by omega]
          have hin : ∀ i j, i < n → j < inf.size → i * inf.size + j < n * inf.size := fun i j hi hj => by
            have : (i + 1) * inf.size ≤ n * inf.size := Nat.mul_le_mul_right _ hi
            rw [Nat.add_mul] at this; omega
          have hnn : n ≤ n * inf.size := Nat.le_mul_of_pos_right n (by omega)
          have hrun' : (execOp a.eval o).run X.E.P w = .ok (.value (.slice (some ⟨w.heap.size, 0, none⟩) n n)) (w.alloc (.cells os.toArray e)) := by simp only [execOp, hop]; exact run_value hrun
          split at hr
          · split at hr
            · rename_i hfk
              simp only [Bool.and_eq_true] at hfk
              obtain ⟨hfk, hemp⟩ := hfk
              have hs1 := beq_true hfk.2
              rw [forceL_eq] at hr
              obtain rfl := Tr.run_ret hr
              have hemp : ks = [] := by simpa using hemp
              subst hemp
              have hflat : (cs.map fun c => [c]).flatten = cs := by
                clear hfill hall hP hlen hol o2 hr
                induction cs with
                | nil => rfl
                | cons c cs ih => simp only [List.map_cons, List.flatten_cons, ih]; rfl
              refine .value hrun' (h1.fresh o.dst (l := .rowv (.slice (some ⟨w.heap.size, 0, none⟩) n n)) (free_of (S := S) hE h hd hfk.1) hev (fun x hx => by cases hx; exact Nat.le_refl _) ?_ (fun _ _ h => by cases h) (.row kd) _ ⟨_, _, _, rfl, by rw [upd_same]⟩ (fun k hk => ?_) hd)
              · refine ⟨w.heap.size, os.toArray, by rw [List.length_map, hlen, hs1, Nat.mul_one], heap_alloc_new w _, ?_, ?_, ?_, fun o ho => absurd (h1.sta.lt ho) (Nat.lt_irrefl _)⟩
                · rw [hflat]; exact hP.mono fun _ _ h => h.mono (fun _ _ h => h) hkeep
                · intro x hx; obtain ⟨c, _, rfl⟩ := List.mem_map.1 hx; rfl
                · rw [List.length_map]; exact (show cs.length ≤ 2 ^ 63 - 1 by omega)
              · simp [keysT, keys, keys1] at hk; exact .inl hk
            · exact (Tr.run_fail hr).elim
          · have hr := (needC_run hr).2
            rw [forceL_eq] at hr
            obtain rfl := Tr.run_ret hr
            refine .value hrun'
              (h1.grow (st' := fun b o => st b o ∨ (b = w.heap.size ∧ o < n * inf.size)) o.dst _ _ hev (fun _ _ h => .inl h) ?_ ?_ (fun _ _ => ?_) (fun _ _ k hk => by cases hk) hd)
            · rintro b o hb (ho | ⟨rfl, _⟩)
              · exact ho
              · omega
            · rintro b o (ho | ⟨rfl, ho⟩)
              · exact Nat.lt_of_lt_of_le (h1.sta b o ho) hev.size
              · exact World.block_lt_of_cell? _ _ (hcell o ho)
            · refine PV.sl true inf.size n n _ (some ⟨w.heap.size, 0, none⟩) w.heap.size 0 (fun i j => os.getD (i * inf.size + j) undef) (Nat.le_refl _) (fun _ => rfl) (show n ≤ 2 ^ 63 - 1 by omega) (fun _ => rfl) (fun i hi => ?_) (fun i j hi hj => ?_) (fun i j hi hj => .inr ⟨rfl, ?_⟩) (fun i j hi hj => ?_)
              · have := hin i 0 hi (by omega)
                have : (i + 1) * inf.size ≤ n * inf.size := Nat.mul_le_mul_right _ hi
                rw [Nat.add_mul] at this
                simp; omega
              · rw [Nat.zero_add]; exact hcell _ (hin i j hi hj)
              · rw [Nat.zero_add]; exact hin i j hi hj
              · have hlt := hin i j hi hj
                have hx : cs[i * inf.size + j]? = some (cs[i * inf.size + j]'(by omega)) := List.getElem?_eq_getElem (by omega)
                obtain ⟨b, hb, hr⟩ := hP.get hx
                simp only [List.getD_eq_getElem?_getD, List.getElem?_take, if_pos hj, List.getElem?_drop]
                rw [hx, hb]
                exact hr.mono (fun _ _ h => .inl h) hkeep
        · exact (Tr.run_fail hr).elim
      · exact (Tr.run_fail hr).elim
    · exact (Tr.run_fail hr).elim
  · exact (Tr.run_fail hr).elim
theorem call_mem (hΓ : ConsOk X.E) {g : Operand} {args : Array Operand} {at_ : Array TypeId} (hop : o.op = .call { callee := .value g, args, argTypes := at_ }) (hr : (memOp X.E S.H (opnd X.E S.slot) kd (.call { callee := .value g, args, argTypes := at_ })).run = some out) :
    StepTo X o a w ⟨putO S.slot o.dst out.v, applyW S.H out.w⟩ := by
  have hg := opnd_rel h g
  simp only [memOp, forceLL_eq] at hr
  split at hr
  · rename_i f cap hgv
    rw [hgv] at hg
    obtain ⟨cs, hgval, hcap⟩ : ∃ cs : List Value, a.eval g = .func (.func f) #[] cs.toArray ∧ All2 (R1 w st ρ) cap cs := hg
    split at hr
    · rename_i c hlk
      simp only [cond_eq_ite] at hr
      split at hr
      · rename_i hp
        obtain ⟨r, hc, hr⟩ := Tr.run_bind_some hr
        have hf := hΓ _ (look_mem hlk)
        generalize hks : args.toList.flatMap (fun a => keys (opnd X.E S.slot a)) = ks at hr
        have hp' := hp
        rw [List.all_append, Bool.and_eq_true, List.all_map] at hp'
        obtain ⟨hpa, hpc⟩ := hp'
        have hrows : ∀ k ∈ ks, ∃ e sz els p, S.H k = some (.row e sz els p) := fun k hk => by
          rw [← hks] at hk
          obtain ⟨x, hx, hk⟩ := List.mem_flatMap.1 hk
          exact view_row ((List.all_eq_true.1 hpa) x hx) k hk
        have h1 := h.freeze (fun k => ks.contains k)
        have hargs : All2 (R2 w (stF st S.H ρ fun k => ks.contains k) noρ) ((args.toList.map fun a => view S.H (opnd X.E S.slot a)) ++ cap) (args.toList.map a.eval ++ cs) := by
          refine All2.append ?_ (hcap.mono_mem fun c v hc hv => R2_keys ((List.all_eq_true.1 hpc) c hc) (R1_R2 (hv.mono (fun _ _ h => .inl h) (Keep.refl _ _))))
          have : ∀ l : List Operand, (∀ x ∈ l, pers (view S.H (opnd X.E S.slot x)) = true ∧ ∀ k ∈ keys (opnd X.E S.slot x), ks.contains k = true) →
              All2 (R2 w (stF st S.H ρ fun k => ks.contains k) noρ) (l.map fun a => view S.H (opnd X.E S.slot a)) (l.map a.eval) := by
            intro l
            induction l with
            | nil => intro _; exact .nil
            | cons x l ih =>
              intro hl
              exact .cons (R2_keys (hl x (by simp)).1 (view_rel h (opnd_rel h x) (hl x (by simp)).2 (hl x (by simp)).1)) (ih fun y hy => hl y (by simp [hy]))
          refine this _ fun x hx => ⟨(List.all_eq_true.1 hpa) x hx, fun k hk => ?_⟩
          rw [← hks]
          simp only [List.contains_eq_mem, List.mem_flatMap, decide_eq_true_eq]
          exact ⟨x, hx, hk⟩
        have hrun := hf _ r hc hp w _ _ h1.sta h1.glob hargs
        have hvals : (args.map a.eval ++ cs.toArray) = (args.toList.map a.eval ++ cs).toArray := by apply Array.toList_inj.1; simp
        have hnext : (execOp a.eval o).run X.E.P w = (callFunc f (args.toList.map a.eval ++ cs).toArray).run X.E.P w := by
          rw [← hvals]
          simp only [execOp, hop, resolve, hgval, Deferred.ofValue, Sem.run_bind, Sem.run_pure, Result.andThen_ok, invoke]
          congr 2
          simp
        suffices hgo : ∀ val w' st', Ev (fun _ => False) w w' → (∀ b o, stF st S.H ρ (fun k => ks.contains k) b o → st' b o) → (∀ b o, b < w.heap.size → st' b o → stF st S.H ρ (fun k => ks.contains k) b o) → Sta w' st' → ResOk w w' st' r val →
            ∃ st2 ρ2, Rel X ⟨putO S.slot o.dst out.v, applyW S.H out.w⟩ (a.put o.dst val) w' st2 ρ2 by
          intro next Q hn
          unfold Oper.wp
          rw [hnext]
          rcases hrun with ⟨h2, h3⟩ | ⟨v, w', h2, st', e1, e2, e3, e4, e5⟩
          · rw [h2]
            refine Calls.mono h3 fun e w' he => ?_
            obtain ⟨v, rfl, st', e1, e2, e3, e4, e5⟩ := he
            obtain ⟨st2, ρ2, hR⟩ := hgo v w' st' e1 e2 e3 e4 e5
            exact hn _ _ _ _ hR
          · rw [h2]
            obtain ⟨st2, ρ2, hR⟩ := hgo v w' st' e1 e2 e3 e4 e5
            exact hn _ _ _ _ hR
        intro val w' st' e1 e2 e3 e4 e5
        have pinsEq : ks.all (pinned S.H) = true → frzH S.H (fun k => ks.contains k) = S.H := fun hall => by
          funext j
          unfold frzH
          split
          · rename_i hj
            have hj : j ∈ ks := by simpa using hj
            obtain ⟨e, sz, els, p, hH⟩ := hrows j hj
            have := (List.all_eq_true.1 hall) j hj
            simp only [pinned, hH] at this
            rw [hH, this]; rfl
          · rfl
        have persGo : ∀ {H'}, frzH S.H (fun k => ks.contains k) = H' → persT r = true → (∀ e sz els, r ≠ .fresh e sz els) → ∃ st2 ρ2, Rel X ⟨putO S.slot o.dst r, H'⟩ (a.put o.dst val) w' st2 ρ2 := fun hH' hpr hnf => by
          rw [← hH']
          have e5' : R3 w' st' ρ r val := by
            have : persT r = true → R3 w' st' noρ r val := by
              unfold ResOk at e5
              split at e5
              · exact absurd rfl (hnf _ _ _)
              · exact e5
            exact R3_keys hpr (this hpr)
          exact ⟨st', ρ, h1.grow o.dst r val e1 e2 e3 e4 (fun _ _ => e5') (fun _ _ k hk => by rw [keysT_pers hpr] at hk; cases hk) hd⟩
        split at hr
        · rename_i hsp
          split at hr
          · rename_i e sz els
            split at hr
            · rename_i hfk
              have hfree := free_of hE h hd hfk
              obtain rfl := Tr.run_ret hr
              have hall : ks.all (pinned S.H) = true := by
                simp only [Bool.or_eq_true] at hsp
                rcases hsp with hs | hs
                · cases hs
                · exact hs
              rw [pinsEq hall] at h1
              obtain ⟨vals, o1, o2, o3, o4⟩ := e5
              refine ⟨st', upd ρ kd (.rowv val), h1.fresh' o.dst (B := .row e sz els false) (l := .rowv val) e2 e3 e4 hfree e1 (fun x hx => (o4 x hx).1) ⟨vals, o1, o2, o3, fun g hg o ho => absurd ho ((o4 g hg).2 o)⟩ (fun _ _ h => by cases h) (.row kd) val ?_ (fun k hk => ?_) hd⟩
              · rcases o1.2 with ⟨rfl, _⟩ | ⟨g, cap, cur, rfl, _⟩
                · exact ⟨none, 0, 0, rfl, by rw [upd_same]⟩
                · exact ⟨_, _, _, rfl, by rw [upd_same]⟩
              · simp only [keysT, keys, keys1, List.mem_singleton] at hk; exact .inl hk
            · exact (Tr.run_fail hr).elim
          · rename_i hnf
            split at hr
            · rename_i hpr
              obtain rfl := Tr.run_ret hr
              simp only [Bool.or_eq_true] at hsp
              rcases hsp with hs | hs
              · have e5' : R3 w' st' noρ r val := by
                  unfold ResOk at e5
                  split at e5
                  · cases hs
                  · exact e5 hpr
                have hkeep : Keep st w w' := fun b o hs => cell_of_block (e1.block b (h.sta.lt hs) (fun h => h))
                exact ⟨st, ρ, h.grow o.dst r val e1 (fun _ _ h => h) (fun _ _ _ h => h) (h.sta.keep e1.size) (fun _ _ => scal_R3 hs e5') (fun _ _ k hk => by rw [keysT_pers hpr] at hk; cases hk) hd⟩
              · exact persGo (pinsEq hs) hpr (fun e sz els he => hnf e sz els he)
            · exact (Tr.run_fail hr).elim
        · split at hr
          · rename_i hns hpr
            obtain rfl := Tr.run_ret hr
            refine persGo (frzH_eq (fun p hp => ?_) (fun k hk => ?_)) hpr (fun e sz els he => by subst he; cases hpr)
            · obtain ⟨k, hk, hm⟩ := List.mem_filterMap.1 hp
              unfold pinOf at hm
              split at hm
              · rename_i hH
                cases hm
                exact ⟨by simp [hH, frz], by simpa using hk⟩
              · cases hm
            · have hk : k ∈ ks := by simpa using hk
              obtain ⟨e, sz, els, p, hH⟩ := hrows k hk
              cases p with
              | true => exact .inr (by rw [hH]; rfl)
              | false =>
                refine .inl (List.mem_map.2 ⟨(k, .row e sz els true), List.mem_filterMap.2 ⟨k, hk, by simp [pinOf, hH]⟩, rfl⟩)
          · exact (Tr.run_fail hr).elim
      · exact (Tr.run_fail hr).elim
    · exact (Tr.run_fail hr).elim
  · exact (Tr.run_fail hr).elim
end
end Go.Eng
end
section
set_option linter.unusedVariables false
set_option linter.unusedSimpArgs false
set_option linter.unusedSectionVars false
namespace Go.Eng
open Go
structure AllOk (E : Env) : Prop where
  env : EnvOk E
  cons : ConsOk E
section
variable {X : Ctx} (hA : AllOk X.E) {S : St} {a : Act} {w : World} {st : Stab} {ρ : Nat → Loc} (h : Rel X S a w st ρ) {o : Oper} (hd : ∀ d, o.dst = some d → d < X.N) {kd : Nat} {out : Out}
include hA h hd
theorem mem_step (hr : (memOp X.E S.H (opnd X.E S.slot) kd o.op).run = some out) : StepTo X o a w ⟨putO S.slot o.dst out.v, applyW S.H out.w⟩ := by
  have hE := hA.env
  generalize hop : o.op = op at hr
  cases op with
  | load t x => exact load_mem hE h hd hop hr
  | store t x y => exact store_mem hE h hd hop hr
  | alloc t => exact alloc_mem hE h hd hop hr
  | box t x => exact box_mem hE h hd hop hr
  | buildSlice t n parts => exact buildSlice_mem hE h hd hop hr
  | makeSlice t l c => exact makeSlice_mem hE h hd hop hr
  | makeFunc fn first cap => exact makeFunc_mem hE h hd hop hr
  | indexAddr t x i => exact indexAddr_mem hE h hd hop hr
  | slice t x lo hi mx =>
    cases mx with
    | none => exact slice_mem hE h hd hop hr
    | some m => exact pure_step hE h hd hop hr
  | convert s t x => exact convert_mem hE h hd hop hr
  | call c =>
    obtain ⟨callee, args, at_⟩ := c
    cases callee with
    | builtin b =>
      cases b with
      | append => exact append_mem hE h hd hop hr
      | len => exact len_mem hE h hd hop hr
      | _ => exact pure_step hE h hd hop hr
    | invoke r n => exact pure_step hE h hd hop hr
    | value g => exact call_mem hE h hd hA.cons hop hr
  | _ => exact pure_step hE h hd hop hr
theorem exec1_step {S' : St} {fp : Fp} (hr : (exec1 X.E o S).run = some (S', fp)) : StepTo X o a w S' := by
  unfold exec1 at hr
  obtain ⟨out, h1, h2⟩ := Tr.run_bind_some hr
  have := Tr.run_ret h2
  simp only [Prod.mk.injEq] at this
  obtain ⟨rfl, _⟩ := this
  exact mem_step hA h hd h1
omit hA in
theorem skip1_rel : Rel X (skip1 o S).1 (a.put o.dst undef) w st ρ := h.put o.dst .undef undef (fun _ _ => rfl) (fun _ _ _ hk => by cases hk) hd
end
theorem step1_wp {X : Ctx} (hA : AllOk X.E) {S S' : St} {a : Act} {w : World} {st : Stab} {ρ : Nat → Loc} (h : Rel X S a w st ρ) {ops : Array Oper} {i : Nat} {o : Oper} (hi : ops[i]? = some o) (hd : ∀ d, o.dst = some d → d < X.N) {fp : Fp}
    (hr : (step1 X.E ops.toList o S).run = some (S', fp)) {Q : Exit → Act → World → Prop} {K : Act → World → Prop} (hK : ∀ a' w' st' ρ', Rel X S' a' w' st' ρ' → K a' w') : wpOp X.E.P ops Q i K a w := by
  unfold wpOp
  simp only [hi]
  unfold step1 at hr
  split at hr
  · rename_i hg
    rw [if_pos (by simp [Region.wanted, hg])]
    exact .inl (exec1_step hA h hd hr K Q hK)
  · rename_i j want hg
    split at hr
    · exact (Tr.run_fail hr).elim
    · rename_i t ht
      have hslot := h.slots t
      have hy : ∀ v, a.tmps.getD t undef = v → v ≠ undef → a.tmps[t]? = some v := fun v hv hne => by
        rw [Array.getD_eq_getD_getElem?] at hv
        cases hq : a.tmps[t]? with
        | none => rw [hq] at hv; exact absurd hv.symm hne
        | some u => rw [hq] at hv; simp at hv; rw [hv]
      have hyl : yielded ops a.tmps j = match a.tmps[t]? with | some (.bool b) => some b | _ => none := by
        have : (ops[j]?).bind (·.dst) = some t := by simpa [guardSlot] using ht
        simp only [yielded, this, Option.bind_some]
        cases a.tmps[t]? with
        | none => rfl
        | some u => cases u <;> rfl
      have go : ∀ b : Bool, a.tmps.getD t undef = .bool b → (bif b == want then exec1 X.E o S else .ret (skip1 o S)).run = some (S', fp) →
          (if Region.wanted o (yielded ops a.tmps) = true then o.wp X.E.P a w K Q ∨ (o.asks X.E.P a w ∧ LetsOut Q) else K (a.put o.dst undef) w) := fun b hb hr => by
        have hyb : yielded ops a.tmps j = some b := by rw [hyl, hy _ hb (by simp [undef])]
        have hw : Region.wanted o (yielded ops a.tmps) = (b == want) := by
          simp only [Region.wanted, hg, hyb]
          cases b <;> cases want <;> rfl
        rw [hw]
        cases hbw : (b == want) with
        | true =>
          rw [hbw] at hr
          rw [if_pos rfl]
          exact .inl (exec1_step hA h hd hr K Q hK)
        | false =>
          rw [hbw] at hr
          rw [if_neg (by simp)]
          have := Tr.run_ret hr
          have h2 : S' = (skip1 o S).1 := by rw [this]
          rw [h2] at hK
          exact hK _ _ _ _ (skip1_rel h hd)
      split at hr
      · rename_i b hb
        rw [hb] at hslot
        exact go b (R3_bool hslot) hr
      · rename_i b hb
        rw [hb] at hslot
        exact go b (R3_prop hslot) hr
      · rename_i hb
        rw [hb] at hslot
        have hu : a.tmps.getD t undef = undef := hslot
        have hw : Region.wanted o (yielded ops a.tmps) = false := by
          simp only [Region.wanted, hg, hyl]
          rw [Array.getD_eq_getD_getElem?] at hu
          cases hq : a.tmps[t]? with
          | none => rfl
          | some u => rw [hq] at hu; simp at hu; subst hu; rfl
        rw [hw, if_neg (by simp)]
        have := Tr.run_ret hr
        have h2 : S' = (skip1 o S).1 := by rw [this]
        rw [h2] at hK
        exact hK _ _ _ _ (skip1_rel h hd)
      · exact (Tr.run_fail hr).elim
inductive RunL (E : Env) (ops : List Oper) : List Oper → St → St → List Fp → Prop
  | nil (S : St) : RunL E ops [] S S []
  | cons {o : Oper} {l : List Oper} {S S1 S2 : St} {fp : Fp} {fps : List Fp} (h : (step1 E ops o S).run = some (S1, fp)) (t : RunL E ops l S1 S2 fps) : RunL E ops (o :: l) S S2 (fp :: fps)
theorem wp_text {X : Ctx} (hA : AllOk X.E) {ops : Array Oper} {Q : Exit → Act → World → Prop} (hd : ∀ o ∈ ops.toList, ∀ d, o.dst = some d → d < X.N) :
    ∀ (l : List Oper) (n : Nat) (S S' : St) (fps : List Fp) (a : Act) (w : World) (st : Stab) (ρ : Nat → Loc), ops.toList.drop n = l → RunL X.E ops.toList l S S' fps → Rel X S a w st ρ →
      (∀ a' w' st' ρ', Rel X S' a' w' st' ρ' → Q .normal a' w') → wpOps X.E.P ops Q (List.range' n l.length) a w := by
  intro l
  induction l with
  | nil =>
    intro n S S' fps a w st ρ _ hr h hQ
    cases hr
    exact hQ _ _ _ _ h
  | cons o l ih =>
    intro n S S' fps a w st ρ hl hr h hQ
    cases hr with
    | cons h1 h2 =>
    have hi : ops[n]? = some o := by
      have : (ops.toList.drop n)[0]? = some o := by rw [hl]; rfl
      simpa using this
    have hm : o ∈ ops.toList := by
      have : o ∈ ops.toList.drop n := by rw [hl]; simp
      exact List.mem_of_mem_drop this
    rw [List.length_cons, List.range'_succ, wpOps_cons]
    refine step1_wp hA h hi (hd o hm) h1 fun a' w' st' ρ' h' => ?_
    exact ih (n + 1) _ _ _ _ _ _ _ (by rw [← List.drop_drop, hl]; rfl) h2 h' hQ
theorem Rel.drew {X : Ctx} {S : St} {a : Act} {w : World} {st : Stab} {ρ : Nat → Loc} (h : Rel X S a w st ρ) : Rel X S a { w with drawn := w.drawn + 1 } st ρ :=
  h.grow (w' := { w with drawn := w.drawn + 1 }) none .any undef ⟨rfl, rfl, rfl, Nat.le_refl _, fun _ _ _ => rfl⟩ (fun _ _ h => h) (fun _ _ _ h => h) (h.sta.keep (Nat.le_refl _)) (fun _ h => by cases h) (fun _ h => by cases h) (fun _ h => by cases h)
end Go.Eng
end
