/-
What is proved: 'midrangetop.TopTextsRefused' returns true for every input, and its arguments read behind the call as they read before (the tied card of the statement 'TopTextsRefused').
  Its conditions: the row's own: the ten listed package-level variables start as the program's text lays them (the card ties them to that text); nothing else is asked.
  Part 8 of 15.
-/
import Derived.Test.YtgcnbicoajjlaaaGreatDoorA7
set_option linter.unusedSectionVars false
set_option linter.unusedVariables false
set_option linter.unusedSimpArgs false
section
set_option linter.unusedVariables false
set_option linter.unusedSimpArgs false
set_option maxRecDepth 100000
namespace Go.Proofs.YtgcnbicoajjlaaaGreatDoor
open Go Go.Eng Go.Tx
variable {m : Int}
noncomputable def invName (s : Str) (P : Nat → Prop) : Eng.Inv :=
  ⟨{ i : Nat // i ≤ s.length ∧ ∀ k, k < i → P k }, fun i => [(15, slBytes s), (16, I s.length), (17, I i.1)], fun _ => [], fun i => s.length - i.1⟩
noncomputable def badAt (s : Str) (k : Nat) : Bool := !(letter (s.getD k 0)) && (decide ((k : Int) = 0) || !(isDig (s.getD k 0) || (s.getD k 0) == 95 || (s.getD k 0) == 46))
theorem byte_eq (c : UInt8) (k : Nat) (hk : k < 256) : decide ((c.toNat : Int) = (k : Int)) = (c == UInt8.ofNat k) := by
  rw [Bool.eq_iff_iff]
  simp only [decide_eq_true_eq, beq_iff_eq]
  constructor
  · intro h
    have h : c.toNat = k := by omega
    rw [← h, UInt8.ofNat_toNat]
  · rintro rfl
    rw [UInt8.toNat_ofNat']
    omega
theorem up_I (c : UInt8) : (decide ((65 : Int) ≤ (c.toNat : Int)) && decide ((c.toNat : Int) ≤ 90)) = isUp c := by
  rw [Bool.eq_iff_iff]; simp [isUp]; omega
theorem dig_I (c : UInt8) : (decide ((48 : Int) ≤ (c.toNat : Int)) && decide ((c.toNat : Int) ≤ 57)) = isDig c := by
  rw [Bool.eq_iff_iff]; simp [isDig]; omega
theorem b35 (c : UInt8) : decide ((c.toNat : Int) = 35) = (c == 35) := byte_eq c 35 (by decide)
theorem b36 (c : UInt8) : decide ((c.toNat : Int) = 36) = (c == 36) := byte_eq c 36 (by decide)
theorem b64 (c : UInt8) : decide ((c.toNat : Int) = 64) = (c == 64) := byte_eq c 64 (by decide)
theorem b95 (c : UInt8) : decide ((c.toNat : Int) = 95) = (c == 95) := byte_eq c 95 (by decide)
theorem b46 (c : UInt8) : decide ((c.toNat : Int) = 46) = (c == 46) := byte_eq c 46 (by decide)
theorem badAt_zero (c : UInt8) (r : Str) : badAt (c :: r) 0 = !letter c := by simp [badAt]
theorem badAt_succ (c : UInt8) (r : Str) (k : Nat) : badAt (c :: r) (k + 1) = !nameCh (r.getD k 0) := by
  have h : decide (((k + 1 : Nat) : Int) = 0) = false := by simp; omega
  simp only [badAt, h, Bool.false_or, List.getD_cons_succ, nameCh, Bool.not_or, Bool.and_assoc]
theorem isName_bad {s : Str} {i : Nat} (hi : i < s.length) (h : badAt s i = true) : isName s = false := by
  cases s with
  | nil => simp at hi
  | cons c r =>
    cases i with
    | zero =>
      rw [badAt_zero] at h
      have : letter c = false := by simpa using h
      simp [isName, this]
    | succ i =>
      rw [badAt_succ] at h
      have hi : i < r.length := by simpa using hi
      have h2 : nameCh (r.getD i 0) = false := by simpa using h
      have : r.all nameCh = false := by
        rw [List.all_eq_false]
        refine ⟨r.getD i 0, ?_, by rw [h2]; simp⟩
        rw [List.getD_eq_getElem?_getD, List.getElem?_eq_getElem hi]
        exact List.getElem_mem hi
      simp [isName, this]
theorem isName_good {s : Str} (h0 : s ≠ []) (hl : s.length ≤ 10) (h : ∀ k, k < s.length → badAt s k = false) : isName s = true := by
  cases s with
  | nil => exact absurd rfl h0
  | cons c r =>
    have h1 := h 0 (by simp)
    rw [badAt_zero] at h1
    have h2 : r.all nameCh = true := by
      rw [List.all_eq_true]
      intro x hx
      obtain ⟨k, hk, rfl⟩ := List.mem_iff_getElem.1 hx
      have := h (k + 1) (by simpa using hk)
      rw [badAt_succ, List.getD_eq_getElem?_getD, List.getElem?_eq_getElem hk] at this
      simpa using this
    have h3 : r.length ≤ 9 := by simpa using hl
    have h4 : letter c = true := by simpa using h1
    simp [isName, h2, h3, h4]
theorem isName_long {s : Str} (h : 10 < s.length) : isName s = false := by
  cases s with
  | nil => rfl
  | cons c r =>
    have : ¬ r.length ≤ 9 := by simp at h; omega
    simp [isName, this]
theorem badOrder (s : Str) (i : Nat) : badAt s i = (!(isUp (s.getD i 0) || (s.getD i 0) == 35 || (s.getD i 0) == 36 || (s.getD i 0) == 64) && (decide ((i : Int) = 0) || !(isDig (s.getD i 0) || (s.getD i 0) == 95 || (s.getD i 0) == 46))) := rfl
theorem badOrder2 (s : Str) (i : Nat) : badAt s i = (!(isUp (s.getD i 0) || (s.getD i 0) == 36 || (s.getD i 0) == 35 || (s.getD i 0) == 64) && (decide ((i : Int) = 0) || !isDig (s.getD i 0) && !((s.getD i 0) == 95) && !((s.getD i 0) == 46))) := by
  rw [badOrder]
  cases isUp (s.getD i 0) <;> cases (s.getD i 0) == 35 <;> cases (s.getD i 0) == 36 <;> simp
theorem ok44 : Ok m 44 CisName := fn_ok2 cons_nil Tryz.func44 (by kernel_rfl) fun xs r hr hp => by
  unfold CisName at hr
  split at hr
  · rename_i s
    obtain rfl := Tr.run_ret hr
    refine ⟨_, [(0, invName s (fun k => badAt s k = false))], args_self _, of_nice (((decide (s = []) || decide ((10 : Int) < (↑(List.length s) : Int))) = true → false = isName s) ∧ ((decide (s = []) || decide ((10 : Int) < (↑(List.length s) : Int))) = false →
  Ob (List.length s ≤ (1048576 : Nat)) ∧ (∃ (j : { i : Nat // i ≤ List.length s ∧ ∀ (k : Nat), k < i → badAt s k = false }), (List.length s = List.length s ∧ ∀ (i : Nat), i <
  List.length s → strSl s i = strSl s i) ∧ (↑(List.length s) : Int) = (↑(List.length s) : Int) ∧ (0 : Int) = (↑j.val : Int) ∧ True) ∧ ∀ (i : { i : Nat // i ≤ List.length s ∧ ∀ (k
  : Nat), k < i → badAt s k = false }), (decide ((↑i.val : Int) < (↑(List.length s) : Int)) = true → Ob ((0 : Int) ≤ (↑i.val : Int) ∧ (↑i.val : Int) < (↑(List.length s) : Int)) ∧
  ((bif !((bif decide ((65 : Int) ≤ (↑(List.getD s i.val (0 : UInt8)).toNat : Int)) then decide ((↑(List.getD s i.val (0 : UInt8)).toNat : Int) ≤ (90 : Int)) else false) ||
  decide ((↑(List.getD s i.val (0 : UInt8)).toNat : Int) = (35 : Int)) || decide ((↑(List.getD s i.val (0 : UInt8)).toNat : Int) = (36 : Int)) || decide ((↑(List.getD s i.val (0
  : UInt8)).toNat : Int) = (64 : Int))) then decide ((↑i.val : Int) = (0 : Int)) || !((bif decide ((48 : Int) ≤ (↑(List.getD s i.val (0 : UInt8)).toNat : Int)) then decide
  ((↑(List.getD s i.val (0 : UInt8)).toNat : Int) ≤ (57 : Int)) else false) || decide ((↑(List.getD s i.val (0 : UInt8)).toNat : Int) = (95 : Int)) || decide ((↑(List.getD s
  i.val (0 : UInt8)).toNat : Int) = (46 : Int))) else false) = true → false = isName s) ∧ ((bif !((bif decide ((65 : Int) ≤ (↑(List.getD s i.val (0 : UInt8)).toNat : Int)) then
  decide ((↑(List.getD s i.val (0 : UInt8)).toNat : Int) ≤ (90 : Int)) else false) || decide ((↑(List.getD s i.val (0 : UInt8)).toNat : Int) = (35 : Int)) || decide ((↑(List.getD
  s i.val (0 : UInt8)).toNat : Int) = (36 : Int)) || decide ((↑(List.getD s i.val (0 : UInt8)).toNat : Int) = (64 : Int))) then decide ((↑i.val : Int) = (0 : Int)) || !((bif
  decide ((48 : Int) ≤ (↑(List.getD s i.val (0 : UInt8)).toNat : Int)) then decide ((↑(List.getD s i.val (0 : UInt8)).toNat : Int) ≤ (57 : Int)) else false) || decide
  ((↑(List.getD s i.val (0 : UInt8)).toNat : Int) = (95 : Int)) || decide ((↑(List.getD s i.val (0 : UInt8)).toNat : Int) = (46 : Int))) else false) = false → Ob (inI64 ((↑i.val
  : Int) + (1 : Int))) ∧ ∃ (j : { i : Nat // i ≤ List.length s ∧ ∀ (k : Nat), k < i → badAt s k = false }), (List.length s - j.val).succ.le (List.length s - i.val) ∧ (List.length
  s = List.length s ∧ ∀ (i : Nat), i < List.length s → strSl s i = strSl s i) ∧ (↑(List.length s) : Int) = (↑(List.length s) : Int) ∧ (↑i.val : Int) + (1 : Int) = (↑j.val : Int)
  ∧ True)) ∧ (decide ((↑i.val : Int) < (↑(List.length s) : Int)) = false → true = isName s))) (by kernel_rfl) ?_⟩
    simp only [band_c, up_I, dig_I, b35, b36, b64, b95, b46]
    refine And.intro (fun h => ?_) (fun h => ?_)
    · simp only [Bool.or_eq_true, decide_eq_true_eq] at h
      rcases h with h | h
      · subst h; rfl
      · exact (isName_long (by omega)).symm
    · simp only [Bool.or_eq_false_iff, decide_eq_false_iff_not] at h
      refine And.intro ⟨by omega⟩ (And.intro ⟨⟨0, Nat.zero_le _, below_zero⟩, ⟨(by first | rfl | trivial), fun _ _ => (by first | rfl | trivial)⟩, (by first | rfl | trivial), (by first | rfl | trivial), trivial⟩ ?_)
      rintro ⟨i, hi, hk⟩
      refine And.intro (fun h1 => ?_) (fun h1 => ?_)
      · have h' := lt_of_dec h1
        have e : badAt s i = _ := badOrder s i
        refine And.intro ⟨Int.natCast_nonneg i, Int.ofNat_lt.2 h'⟩ (And.intro (fun hb => ?_) (fun hb => And.intro ⟨succ_in h' (by unfold maxLen; omega)⟩ ?_))
        · exact (isName_bad h' (e.trans hb)).symm
        · exact ⟨⟨i + 1, h', below_succ hk (e.trans hb)⟩, sub_step h', ⟨(by first | rfl | trivial), fun _ _ => (by first | rfl | trivial)⟩, (by first | rfl | trivial), (by first | rfl | trivial), trivial⟩
      · have := ge_of_dec h1 hi
        subst this
        exact (isName_good h.1 (by omega) hk).symm
  · exact (Tr.run_fail hr).elim
noncomputable def invName2 (s : Str) (P : Nat → Prop) : Eng.Inv :=
  ⟨{ i : Nat // i ≤ s.length ∧ ∀ k, k < i → P k }, fun i => [(0, .str s), (3, I i.1)], fun _ => [], fun i => s.length - i.1⟩
theorem ok51 : Ok m 51 CisName := fn_ok2 (cons_cons ok6 (cons_cons ok86 (cons_cons ok87 cons_nil))) Tryz.func51 (by kernel_rfl) fun xs r hr hp => by
  unfold CisName at hr
  split at hr
  · rename_i s
    obtain rfl := Tr.run_ret hr
    refine ⟨_, [(0, invName2 s (fun k => badAt s k = false))], args_self _, of_nice (((!(decide ((1 : Int) ≤ (↑(List.length s) : Int)) && decide ((↑(List.length s) : Int) ≤ (10 : Int)))) = true → false = isName s) ∧ ((!(decide ((1 : Int) ≤ (↑(List.length s) :
  Int)) && decide ((↑(List.length s) : Int) ≤ (10 : Int)))) = false → (∃ (j : { i : Nat // i ≤ List.length s ∧ ∀ (k : Nat), k < i → badAt s k = false }), s = s ∧ (0 : Int) =
  (↑j.val : Int) ∧ True) ∧ ∀ (i : { i : Nat // i ≤ List.length s ∧ ∀ (k : Nat), k < i → badAt s k = false }), (decide ((↑i.val : Int) < (↑(List.length s) : Int)) = true → Ob ((0
  : Int) ≤ (↑i.val : Int) ∧ (↑i.val : Int) < (↑(List.length s) : Int)) ∧ ((bif !(decide ((65 : Int) ≤ (↑(List.getD s i.val (0 : UInt8)).toNat : Int)) && decide ((↑(List.getD s
  i.val (0 : UInt8)).toNat : Int) ≤ (90 : Int)) || decide ((↑(List.getD s i.val (0 : UInt8)).toNat : Int) = (36 : Int)) || decide ((↑(List.getD s i.val (0 : UInt8)).toNat : Int)
  = (35 : Int)) || decide ((↑(List.getD s i.val (0 : UInt8)).toNat : Int) = (64 : Int))) then decide ((↑i.val : Int) = (0 : Int)) || bif bif !(decide ((48 : Int) ≤ (↑(List.getD s
  i.val (0 : UInt8)).toNat : Int)) && decide ((↑(List.getD s i.val (0 : UInt8)).toNat : Int) ≤ (57 : Int))) then !decide ((↑(List.getD s i.val (0 : UInt8)).toNat : Int) = (95 :
  Int)) else false then !decide ((↑(List.getD s i.val (0 : UInt8)).toNat : Int) = (46 : Int)) else false else false) = true → false = isName s) ∧ ((bif !(decide ((65 : Int) ≤
  (↑(List.getD s i.val (0 : UInt8)).toNat : Int)) && decide ((↑(List.getD s i.val (0 : UInt8)).toNat : Int) ≤ (90 : Int)) || decide ((↑(List.getD s i.val (0 : UInt8)).toNat :
  Int) = (36 : Int)) || decide ((↑(List.getD s i.val (0 : UInt8)).toNat : Int) = (35 : Int)) || decide ((↑(List.getD s i.val (0 : UInt8)).toNat : Int) = (64 : Int))) then decide
  ((↑i.val : Int) = (0 : Int)) || bif bif !(decide ((48 : Int) ≤ (↑(List.getD s i.val (0 : UInt8)).toNat : Int)) && decide ((↑(List.getD s i.val (0 : UInt8)).toNat : Int) ≤ (57 :
  Int))) then !decide ((↑(List.getD s i.val (0 : UInt8)).toNat : Int) = (95 : Int)) else false then !decide ((↑(List.getD s i.val (0 : UInt8)).toNat : Int) = (46 : Int)) else
  false else false) = false → Ob (inI64 ((↑i.val : Int) + (1 : Int))) ∧ ∃ (j : { i : Nat // i ≤ List.length s ∧ ∀ (k : Nat), k < i → badAt s k = false }), (List.length s -
  j.val).succ.le (List.length s - i.val) ∧ s = s ∧ (↑i.val : Int) + (1 : Int) = (↑j.val : Int) ∧ True)) ∧ (decide ((↑i.val : Int) < (↑(List.length s) : Int)) = false → true =
  isName s))) (by kernel_rfl) ?_⟩
    simp only [band_c, up_I, dig_I, b35, b36, b64, b95, b46]
    refine And.intro (fun h => ?_) (fun h => ?_)
    · simp only [Bool.not_eq_true', Bool.and_eq_false_iff, decide_eq_false_iff_not] at h
      cases s with
      | nil => rfl
      | cons c r =>
        refine (isName_long ?_).symm
        simp only [List.length_cons] at h ⊢
        omega
    · simp only [Bool.not_eq_false', Bool.and_eq_true, decide_eq_true_eq] at h
      refine And.intro ⟨⟨0, Nat.zero_le _, below_zero⟩, (by first | rfl | trivial), (by first | rfl | trivial), trivial⟩ ?_
      rintro ⟨i, hi, hk⟩
      refine And.intro (fun h1 => ?_) (fun h1 => ?_)
      · have h' := lt_of_dec h1
        have e : badAt s i = _ := badOrder2 s i
        refine And.intro ⟨Int.natCast_nonneg i, Int.ofNat_lt.2 h'⟩ (And.intro (fun hb => ?_) (fun hb => And.intro ⟨succ_in h' (by unfold maxLen; omega)⟩ ?_))
        · exact (isName_bad h' (e.trans hb)).symm
        · exact ⟨⟨i + 1, h', below_succ hk (e.trans hb)⟩, sub_step h', (by first | rfl | trivial), (by first | rfl | trivial), trivial⟩
      · have := ge_of_dec h1 hi
        subst this
        exact (isName_good (by rintro rfl; simp at h) (by omega) hk).symm
  · exact (Tr.run_fail hr).elim
noncomputable def Ccont48 : Con
  | [v, .clo 49 []] => .need (∃ l, eqv (slStrs l) v) (.ret (.prop (!(strs v).all isName)))
  | _ => .fail
theorem ok48 : Ok m 48 Ccont48 := fn_ok2 (cons_cons (ok83 ok44) cons_nil) Tryz.func48 (by kernel_rfl) fun xs r hr hp => by
  unfold Ccont48 at hr
  split at hr
  · rename_i v
    obtain ⟨⟨l, hl⟩, hr⟩ := Tr.run_need hr
    obtain rfl := Tr.run_ret hr
    rw [strs_eqv hl]
    refine ⟨[slStrs l, .clo 49 []], [], ⟨.inr ⟨rfl, rfl, hl⟩, .inl rfl, trivial⟩, of_nice (Ob (∃ (l_1 : List Str), eqv (slStrs l_1) (slStrs l)) ∧ decide ((0 : Int) ≤ firstBad (strs (slStrs l))) = !l.all isName) (by kernel_rfl) ?_⟩
    refine And.intro ⟨⟨l, slStrs_refl l⟩⟩ ?_
    rw [strs_sl, firstBad, findI_any, List.not_all_eq_any_not]
  · exact (Tr.run_fail hr).elim
noncomputable def Ccont102 : Con
  | [v, .clo 103 []] => .need (∃ l, eqv (slBytes l) v) (.ret (.prop ((bytesIn v).any hidden)))
  | _ => .fail
theorem ok102 : Ok m 102 Ccont102 := fn_ok2 (cons_cons ok131 cons_nil) Tryz.func102 (by kernel_rfl) fun xs r hr hp => by
  unfold Ccont102 at hr
  split at hr
  · rename_i v
    obtain ⟨⟨l, hl⟩, hr⟩ := Tr.run_need hr
    obtain rfl := Tr.run_ret hr
    rw [bytes_eqv hl]
    refine ⟨[slBytes l, .clo 103 []], [], ⟨.inr ⟨rfl, rfl, hl⟩, .inl rfl, trivial⟩, of_nice (Ob (∃ (l_1 : Str), eqv (slBytes l_1) (slBytes l)) ∧ decide ((0 : Int) ≤ firstHidden (bytesIn (slBytes l))) = List.any l hidden) (by kernel_rfl) ?_⟩
    refine And.intro ⟨⟨l, slBytes_refl l⟩⟩ ?_
    rw [bytes_eqv (slBytes_refl l), firstHidden, findI_any]
  · exact (Tr.run_fail hr).elim
theorem shown_hidden (s : Str) : (!s.any hidden) = isShown s := by
  rw [isShown, List.not_any_eq_all_not]
  congr 1
  funext c
  rw [Bool.eq_iff_iff]
  simp [hidden]
  omega
noncomputable def CisShown : Con
  | [.str s] => .need (s.length ≤ 1048576) (.ret (.prop (isShown s)))
  | _ => .fail
theorem ok68 : Ok m 68 CisShown := fn_ok2 (cons_cons ok102 cons_nil) Tryz.func68 (by kernel_rfl) fun xs r hr hp => by
  unfold CisShown at hr
  split at hr
  · rename_i s
    obtain ⟨hs, hr⟩ := Tr.run_need hr
    obtain rfl := Tr.run_ret hr
    refine ⟨_, [], args_self _, of_nice (Ob (List.length s ≤ (1048576 : Nat)) ∧ Ob (∃ (l : Str), eqv (slBytes l) (slBytes s)) ∧ (!List.any (bytesIn (slBytes s)) hidden) = isShown s) (by kernel_rfl) ?_⟩
    refine And.intro ⟨hs⟩ (And.intro ⟨⟨s, slBytes_refl s⟩⟩ ?_)
    rw [bytes_eqv (slBytes_refl s)]
    exact shown_hidden s
  · exact (Tr.run_fail hr).elim
noncomputable def Cnamed : Con
  | [v, .str s] => .need (∃ l, eqv (slOpds l) v) (.ret (.int .i64 (named (opdsOf v) s)))
  | _ => .fail
theorem ok50 : Ok m 50 Cnamed := fn_ok2 (cons_cons ok84 cons_nil) Tryz.func50 (by kernel_rfl) fun xs r hr hp => by
  unfold Cnamed at hr
  split at hr
  · rename_i v s
    obtain ⟨⟨l, hl⟩, hr⟩ := Tr.run_need hr
    obtain rfl := Tr.run_ret hr
    rw [opds_eqv hl]
    refine ⟨[slOpds l, .str s], [], ⟨.inr ⟨rfl, rfl, hl⟩, .inl rfl, trivial⟩, of_nice (Ob (∃ (l_1 : List Opd), eqv (slOpds l_1) (slOpds l)) ∧ named (opdsOf (slOpds l)) s = named l s) (by kernel_rfl) ?_⟩
    exact And.intro ⟨⟨l, slOpds_refl l⟩⟩ (by rw [opds_sl])
  · exact (Tr.run_fail hr).elim
noncomputable def prgOf : AV → Prg
  | .agg [a, b, c] => ⟨opdsOf a, insOf b, monsOf c⟩
  | _ => prg0
theorem prg_eqv {p : Prg} {v : AV} (h : eqv (aPrg p) v) : prgOf v = p := by
  cases v with
  | agg l =>
    match l, h with
    | [a, b, c], ⟨h1, h2, h3⟩ =>
      show (⟨opdsOf a, insOf b, monsOf c⟩ : Prg) = p
      have e1 : eqv (slOpds p.ops) a := by cases a <;> first | exact h1 | exact h1.elim
      have e2 : eqv (slIns p.ins) b := by cases b <;> first | exact h2 | exact h2.elim
      have e3 : eqv (slMons p.mons) c := by cases c <;> first | exact h3 | exact h3.elim
      rw [opds_eqv e1, ins_eqv e2, mons_eqv e3]
  | _ => exact h.elim
theorem prg_args {p : Prg} {v : AV} (h : eqv (aPrg p) v) (vs : List AV) : Args (aPrg p :: vs) (v :: vs) := ⟨.inr ⟨rfl, rfl, h⟩, args_self vs⟩
theorem prg_small {p : Prg} {v : AV} (h : eqv (aPrg p) v) (hb : bndA v) : p.ops.length ≤ maxLen ∧ p.ins.length ≤ maxLen ∧ p.mons.length ≤ maxLen := by
  cases v with
  | agg l =>
    match l, h, hb with
    | [a, b, c], ⟨h1, h2, h3⟩, ⟨b1, b2, b3, _⟩ =>
      have e1 : eqv (slOpds p.ops) a := by cases a <;> first | exact h1 | exact h1.elim
      have e2 : eqv (slIns p.ins) b := by cases b <;> first | exact h2 | exact h2.elim
      have e3 : eqv (slMons p.mons) c := by cases c <;> first | exact h3 | exact h3.elim
      exact ⟨len_small1 e1 b1, len_small1 e2 b2, len_small1 e3 b3⟩
  | _ => exact h.elim
noncomputable def Cat : Con
  | [v, .str s] => .need (∃ p, eqv (aPrg p) v) (.ret (.int .i64 (named (prgOf v).ops s)))
  | _ => .fail
noncomputable def invAt (p : Prg) (s : Str) (P : Nat → Prop) : Eng.Inv :=
  ⟨{ i : Nat // i ≤ p.ops.length ∧ ∀ k, k < i → P k }, fun i => [(1, .str s), (2, .ptr 2 0), (5, I i.1)], fun i => [(2, .box [slOpds p.ops, slIns p.ins, slMons p.mons] false)], fun i => p.ops.length - i.1⟩
theorem ok52 : Ok m 52 Cat := fn_ok2 cons_nil Tryz.func52 (by kernel_rfl) fun xs r hr hp => by
  unfold Cat at hr
  split at hr
  · rename_i v s
    obtain ⟨⟨p, hl⟩, hr⟩ := Tr.run_need hr
    obtain rfl := Tr.run_ret hr
    have hb := (prg_small hl hp.1).1
    rw [prg_eqv hl]
    refine ⟨[aPrg p, .str s], [(0, invAt p s (fun k => decide ((p.ops.getD k opd0).name = s) = false))], prg_args hl _, of_nice ((∃ (j : { i : Nat // i ≤ p.ops.length ∧ ∀ (k : Nat), k < i → decide ((p.ops.getD k opd0).name = s) = false }), s = s ∧ True ∧ (0 : Int) = (↑j.val : Int) ∧ ((p.ops.length =
  p.ops.length ∧ ∀ (i : Nat), i < p.ops.length → cOpd (p.ops.getD i opd0) = cOpd (p.ops.getD i opd0)) ∧ (p.ins.length = p.ins.length ∧ ∀ (i : Nat), i < p.ins.length → cIns
  (p.ins.getD i ins0) = cIns (p.ins.getD i ins0)) ∧ p.mons.length = p.mons.length ∧ ∀ (i : Nat), i < p.mons.length → cMon (p.mons.getD i mon0) = cMon (p.mons.getD i mon0)) ∧
  True) ∧ ∀ (i : { i : Nat // i ≤ p.ops.length ∧ ∀ (k : Nat), k < i → decide ((p.ops.getD k opd0).name = s) = false }), (decide ((↑i.val : Int) < (↑p.ops.length : Int)) = true →
  Ob ((0 : Int) ≤ (↑i.val : Int) ∧ (↑i.val : Int) < (↑p.ops.length : Int)) ∧ (decide ((p.ops.getD i.val opd0).name = s) = true → (↑i.val : Int) = named p.ops s) ∧ (decide
  ((p.ops.getD i.val opd0).name = s) = false → Ob (inI64 ((↑i.val : Int) + (1 : Int))) ∧ ∃ (j : { i : Nat // i ≤ p.ops.length ∧ ∀ (k : Nat), k < i → decide ((p.ops.getD k
  opd0).name = s) = false }), (p.ops.length - j.val).succ.le (p.ops.length - i.val) ∧ s = s ∧ True ∧ (↑i.val : Int) + (1 : Int) = (↑j.val : Int) ∧ ((p.ops.length = p.ops.length ∧
  ∀ (i : Nat), i < p.ops.length → cOpd (p.ops.getD i opd0) = cOpd (p.ops.getD i opd0)) ∧ (p.ins.length = p.ins.length ∧ ∀ (i : Nat), i < p.ins.length → cIns (p.ins.getD i ins0) =
  cIns (p.ins.getD i ins0)) ∧ p.mons.length = p.mons.length ∧ ∀ (i : Nat), i < p.mons.length → cMon (p.mons.getD i mon0) = cMon (p.mons.getD i mon0)) ∧ True)) ∧ (decide ((↑i.val
  : Int) < (↑p.ops.length : Int)) = false → (-1 : Int) = named p.ops s)) (by kernel_rfl) ?_⟩
    have hbox : ((p.ops.length = p.ops.length ∧ ∀ (i : Nat), i < p.ops.length → cOpd (p.ops.getD i opd0) = cOpd (p.ops.getD i opd0)) ∧ (p.ins.length = p.ins.length ∧ ∀ (i : Nat), i < p.ins.length → cIns (p.ins.getD i ins0) = cIns (p.ins.getD i ins0)) ∧
      p.mons.length = p.mons.length ∧ ∀ (i : Nat), i < p.mons.length → cMon (p.mons.getD i mon0) = cMon (p.mons.getD i mon0)) ∧ True := ⟨⟨⟨rfl, fun _ _ => rfl⟩, ⟨rfl, fun _ _ => rfl⟩, rfl, fun _ _ => rfl⟩, trivial⟩
    refine And.intro ⟨⟨0, Nat.zero_le _, below_zero⟩, rfl, trivial, rfl, hbox⟩ ?_
    rintro ⟨i, hi, hk⟩
    refine And.intro (fun h => ?_) (fun h => ?_)
    · have h' := lt_of_dec h
      refine And.intro ⟨Int.natCast_nonneg i, Int.ofNat_lt.2 h'⟩ (And.intro (fun hp => ?_) (fun hp => And.intro ⟨succ_in h' hb⟩ ?_))
      · exact (Eq.trans (findI_named s p.ops).symm (findI_hit (p := fun o : Opd => decide (o.name = s)) (d := opd0) h' hk hp)).symm
      · exact ⟨⟨i + 1, h', below_succ hk hp⟩, sub_step h', rfl, trivial, rfl, hbox⟩
    · have := ge_of_dec h hi
      subst this
      exact (Eq.trans (findI_named s p.ops).symm (findI_none (p := fun o : Opd => decide (o.name = s)) (d := opd0) hk)).symm
  · exact (Tr.run_fail hr).elim
end Go.Proofs.YtgcnbicoajjlaaaGreatDoor
end
section
set_option linter.unusedVariables false
set_option linter.unusedSimpArgs false
set_option maxRecDepth 100000
namespace Go.Proofs.YtgcnbicoajjlaaaGreatDoor
open Go Go.Eng Go.Tx
variable {m : Int}
theorem isEmp (s : Str) : s.isEmpty = decide (s = []) := by cases s <;> rfl
noncomputable def Ckept : Con
  | [v] => .need (v = aOpd (opdOf v) ∧ hasExtra (opdOf v) = false ∧ 0 ≤ (opdOf v).kind ∧ (opdOf v).kind ≤ 5) (.ret (aOpd (opdOf v)))
  | _ => .fail
theorem ok92 : Ok m 92 Ckept := fn_ok2 (cons_cons ok93 cons_nil) Tryz.func92 (by kernel_rfl) fun xs r hr hp => by
  unfold Ckept at hr
  split at hr
  · rename_i v
    obtain ⟨⟨hv, hx, hk0, hk5⟩, hr⟩ := Tr.run_need hr
    obtain rfl := Tr.run_ret hr
    generalize opdOf v = o at *
    subst hv
    clear hr hp
    refine ⟨_, [], args_self _, of_nice (Ob (aOpd o = aOpd o) ∧ (isData o.kind = true → (decide (o.kind = (0 : Int)) = true → o.name = o.name ∧ o.kind = o.kind ∧ o.ty.k = o.ty.k ∧ o.ty.l = o.ty.l ∧ o.ty.s = o.ty.s ∧
  o.n = o.n ∧ o.v = o.v ∧ [] = o.base ∧ (0 : Int) = o.off ∧ (0 : Int) = o.tgt) ∧ (decide (o.kind = (0 : Int)) = false → (decide (o.kind = (4 : Int)) = true → o.name = o.name ∧
  o.kind = o.kind ∧ o.ty.k = o.ty.k ∧ o.ty.l = o.ty.l ∧ o.ty.s = o.ty.s ∧ o.n = o.n ∧ o.v = o.v ∧ [] = o.base ∧ (0 : Int) = o.off ∧ (0 : Int) = o.tgt) ∧ (decide (o.kind = (4 :
  Int)) = false → (decide (o.kind = (1 : Int)) = true → o.name = o.name ∧ o.kind = o.kind ∧ o.ty.k = o.ty.k ∧ o.ty.l = o.ty.l ∧ o.ty.s = o.ty.s ∧ (0 : Int) = o.n ∧ [] = o.v ∧
  o.base = o.base ∧ o.off = o.off ∧ (0 : Int) = o.tgt) ∧ (decide (o.kind = (1 : Int)) = false → (decide (o.kind = (2 : Int)) = true → o.name = o.name ∧ o.kind = o.kind ∧ o.ty.k =
  o.ty.k ∧ o.ty.l = o.ty.l ∧ o.ty.s = o.ty.s ∧ (0 : Int) = o.n ∧ [] = o.v ∧ o.base = o.base ∧ o.off = o.off ∧ (0 : Int) = o.tgt) ∧ (decide (o.kind = (2 : Int)) = false → (decide
  (o.kind = (5 : Int)) = true → o.name = o.name ∧ o.kind = o.kind ∧ o.ty.k = o.ty.k ∧ o.ty.l = o.ty.l ∧ o.ty.s = o.ty.s ∧ (0 : Int) = o.n ∧ [] = o.v ∧ [] = o.base ∧ (0 : Int) =
  o.off ∧ o.tgt = o.tgt) ∧ (decide (o.kind = (5 : Int)) = false → o.name = o.name ∧ o.kind = o.kind ∧ o.ty.k = o.ty.k ∧ o.ty.l = o.ty.l ∧ o.ty.s = o.ty.s ∧ (0 : Int) = o.n ∧ [] =
  o.v ∧ [] = o.base ∧ (0 : Int) = o.off ∧ (0 : Int) = o.tgt)))))) ∧ (isData o.kind = false → (decide (o.kind = (0 : Int)) = true → o.name = o.name ∧ o.kind = o.kind ∧ (0 : Int) =
  o.ty.k ∧ (0 : Int) = o.ty.l ∧ (0 : Int) = o.ty.s ∧ o.n = o.n ∧ o.v = o.v ∧ [] = o.base ∧ (0 : Int) = o.off ∧ (0 : Int) = o.tgt) ∧ (decide (o.kind = (0 : Int)) = false → (decide
  (o.kind = (4 : Int)) = true → o.name = o.name ∧ o.kind = o.kind ∧ (0 : Int) = o.ty.k ∧ (0 : Int) = o.ty.l ∧ (0 : Int) = o.ty.s ∧ o.n = o.n ∧ o.v = o.v ∧ [] = o.base ∧ (0 : Int)
  = o.off ∧ (0 : Int) = o.tgt) ∧ (decide (o.kind = (4 : Int)) = false → (decide (o.kind = (1 : Int)) = true → o.name = o.name ∧ o.kind = o.kind ∧ (0 : Int) = o.ty.k ∧ (0 : Int) =
  o.ty.l ∧ (0 : Int) = o.ty.s ∧ (0 : Int) = o.n ∧ [] = o.v ∧ o.base = o.base ∧ o.off = o.off ∧ (0 : Int) = o.tgt) ∧ (decide (o.kind = (1 : Int)) = false → (decide (o.kind = (2 :
  Int)) = true → o.name = o.name ∧ o.kind = o.kind ∧ (0 : Int) = o.ty.k ∧ (0 : Int) = o.ty.l ∧ (0 : Int) = o.ty.s ∧ (0 : Int) = o.n ∧ [] = o.v ∧ o.base = o.base ∧ o.off = o.off ∧
  (0 : Int) = o.tgt) ∧ (decide (o.kind = (2 : Int)) = false → (decide (o.kind = (5 : Int)) = true → o.name = o.name ∧ o.kind = o.kind ∧ (0 : Int) = o.ty.k ∧ (0 : Int) = o.ty.l ∧
  (0 : Int) = o.ty.s ∧ (0 : Int) = o.n ∧ [] = o.v ∧ [] = o.base ∧ (0 : Int) = o.off ∧ o.tgt = o.tgt) ∧ (decide (o.kind = (5 : Int)) = false → o.name = o.name ∧ o.kind = o.kind ∧
  (0 : Int) = o.ty.k ∧ (0 : Int) = o.ty.l ∧ (0 : Int) = o.ty.s ∧ (0 : Int) = o.n ∧ [] = o.v ∧ [] = o.base ∧ (0 : Int) = o.off ∧ (0 : Int) = o.tgt))))))) (by kernel_rfl) ?_⟩
    have hk : o.kind = 0 ∨ o.kind = 1 ∨ o.kind = 2 ∨ o.kind = 3 ∨ o.kind = 4 ∨ o.kind = 5 := by omega
    rcases hk with hk | hk | hk | hk | hk | hk <;> simp [hasExtra, hk, tyZero, isEmp] at hx <;> simp [hk, isData, Ob_iff, hx]
  · exact (Tr.run_fail hr).elim
noncomputable def ChasExtra : Con
  | [v] => .need (v = aOpd (opdOf v)) (.ret (.prop (hasExtra (opdOf v))))
  | _ => .fail
theorem ok53 : Ok m 53 ChasExtra := fn_ok2 cons_nil Tryz.func53 (by kernel_rfl) fun xs r hr hp => by
  unfold ChasExtra at hr
  split at hr
  · rename_i v
    obtain ⟨hv, hr⟩ := Tr.run_need hr
    obtain rfl := Tr.run_ret hr
    generalize opdOf v = o at *
    subst hv
    clear hr hp
    refine ⟨_, [], args_self _, of_nice ((decide (o.kind = (0 : Int)) = true → ((!bif decide (o.base = []) then decide (o.off = (0 : Int)) else false) || !decide (o.tgt = (0 : Int))) = hasExtra o) ∧ (decide (o.kind =
  (0 : Int)) = false → (decide (o.kind = (4 : Int)) = true → ((!bif decide (o.base = []) then decide (o.off = (0 : Int)) else false) || !decide (o.tgt = (0 : Int))) = hasExtra o)
  ∧ (decide (o.kind = (4 : Int)) = false → (decide (o.kind = (1 : Int)) = true → (!(decide (o.n = (0 : Int)) && (decide (o.v = []) && true)) || !decide (o.tgt = (0 : Int))) =
  hasExtra o) ∧ (decide (o.kind = (1 : Int)) = false → (decide (o.kind = (2 : Int)) = true → (!(decide (o.n = (0 : Int)) && (decide (o.v = []) && true)) || !decide (o.tgt = (0 :
  Int))) = hasExtra o) ∧ (decide (o.kind = (2 : Int)) = false → (decide (o.kind = (3 : Int)) = true → ((!(decide (o.ty.k = (0 : Int)) && (decide (o.ty.l = (0 : Int)) && (decide
  (o.ty.s = (0 : Int)) && true))) || !(decide (o.n = (0 : Int)) && (decide (o.v = []) && true)) || !bif decide (o.base = []) then decide (o.off = (0 : Int)) else false) ||
  !decide (o.tgt = (0 : Int))) = hasExtra o) ∧ (decide (o.kind = (3 : Int)) = false → (!(decide (o.ty.k = (0 : Int)) && (decide (o.ty.l = (0 : Int)) && (decide (o.ty.s = (0 :
  Int)) && true))) || !(decide (o.n = (0 : Int)) && (decide (o.v = []) && true)) || !bif decide (o.base = []) then decide (o.off = (0 : Int)) else false) = hasExtra o)))))) (by kernel_rfl) ?_⟩
    simp only [decide_eq_true_eq, decide_eq_false_iff_not, band_c, Bool.and_true]
    repeat' first | refine And.intro ?_ ?_ | intro h
    all_goals simp [hasExtra, tyZero, isEmp, *]
  · exact (Tr.run_fail hr).elim
theorem exOpds (l : List Opd) : (∃ k : List Opd, eqv (slOpds k) (slOpds l)) ↔ True := ⟨fun _ => trivial, fun _ => ⟨l, slOpds_refl l⟩⟩
theorem exStrs (l : List Str) : (∃ k : List Str, eqv (slStrs k) (slStrs l)) ↔ True := ⟨fun _ => trivial, fun _ => ⟨l, slStrs_refl l⟩⟩
theorem exInts (l : List Int) : (∃ k : List Int, eqv (slInts k) (slInts l)) ↔ True := ⟨fun _ => trivial, fun _ => ⟨l, slInts_refl l⟩⟩
theorem exBytes (l : Str) : (∃ k : Str, eqv (slBytes k) (slBytes l)) ↔ True := ⟨fun _ => trivial, fun _ => ⟨l, slBytes_refl l⟩⟩
theorem named_lt (l : List Opd) (s : Str) : named l s < (l.length : Int) := by rw [← findI_named]; exact (findI_ge _ l).2
theorem named_ge (l : List Opd) (s : Str) : -1 ≤ named l s := by rw [← findI_named]; exact (findI_ge _ l).1
def RightTo (p : Prg) (i : Nat) : Prop := i < p.ops.length ∧ ∀ k, k ≤ i → opErr p k = 0
noncomputable def CbaseErr : Con
  | [v, w] => .need (v = aOpd (opdOf v) ∧ (∃ l, eqv (slOpds l) w ∧ 0 ≤ named l (opdOf v).base ∧ (l.getD (named l (opdOf v).base).toNat opd0).kind = (if (opdOf v).kind = 2 then 3 else 0) ∧
      ((opdOf v).kind ≠ 2 → typeErr (opdOf v).ty = 0 ∧ typeErr (l.getD (named l (opdOf v).base).toNat opd0).ty = 0) ∧
      0 ≤ (opdOf v).off ∧ (opdOf v).off ≤ (if (opdOf v).kind = 2 then 256 else size (l.getD (named l (opdOf v).base).toNat opd0).ty - size (opdOf v).ty))) (.ret (.int .i64 0))
  | _ => .fail
theorem size_facts {t : Ty} (h : typeErr t = 0) : 0 ≤ size t ∧ size t ≤ 256 := by
  obtain ⟨f1, f2, f3, f4, f5, f6, f7, f8, f9, f10⟩ := type_facts h
  unfold size
  (repeat' split) <;> omega
theorem ok96 : Ok m 96 CbaseErr := fn_ok2 (cons_cons ok50 (cons_cons ok62 (cons_cons ok91 (cons_cons ok61 (cons_cons ok98 cons_nil))))) Tryz.func96 (by kernel_rfl) fun xs r hr hp => by
  unfold CbaseErr at hr
  split at hr
  · rename_i v w
    obtain ⟨⟨hv, l, hl, h0, hk, ht, ho, ho2⟩, hr⟩ := Tr.run_need hr
    obtain rfl := Tr.run_ret hr
    generalize opdOf v = o at *
    subst hv
    clear hr hp
    refine ⟨[aOpd o, slOpds l], [], ⟨.inl rfl, .inr ⟨rfl, rfl, hl⟩, trivial⟩, of_nice (Ob (∃ (l_1 : List Opd), eqv (slOpds l_1) (slOpds l)) ∧ (decide (named (opdsOf (slOpds l)) o.base < (0 : Int)) = true → (11 : Int) = (0 : Int)) ∧ (decide (named (opdsOf (slOpds
  l)) o.base < (0 : Int)) = false → Ob ((0 : Int) ≤ named (opdsOf (slOpds l)) o.base ∧ named (opdsOf (slOpds l)) o.base < (↑l.length : Int)) ∧ (decide (o.kind = (2 : Int)) = true
  → Ob (∃ (l_1 : List Int), eqv (slInts l_1) (AV.sl true (1 : Nat) (2 : Nat) fun (i : Nat) => List.take (1 : Nat) (List.drop (i * (1 : Nat)) [AV.int IntKind.i64 (bif !decide
  ((l.getD (named (opdsOf (slOpds l)) o.base).toNat opd0).kind = (3 : Int)) then (17 : Int) else (0 : Int)), AV.int IntKind.i64 (bif !(decide ((0 : Int) ≤ o.off) && decide (o.off
  ≤ (256 : Int))) then (3 : Int) else (0 : Int))]))) ∧ firstNZ [bif !decide ((l.getD (named (opdsOf (slOpds l)) o.base).toNat opd0).kind = (3 : Int)) then (17 : Int) else (0 :
  Int), bif !(decide ((0 : Int) ≤ o.off) && decide (o.off ≤ (256 : Int))) then (3 : Int) else (0 : Int)] = (0 : Int)) ∧ (decide (o.kind = (2 : Int)) = false → ((!decide ((l.getD
  (named (opdsOf (slOpds l)) o.base).toNat opd0).kind = (0 : Int))) = true → (17 : Int) = (0 : Int)) ∧ ((!decide ((l.getD (named (opdsOf (slOpds l)) o.base).toNat opd0).kind = (0
  : Int))) = false → Ob (aOpd (l.getD (named (opdsOf (slOpds l)) o.base).toNat opd0) = aOpd (l.getD (named (opdsOf (slOpds l)) o.base).toNat opd0) ∧ typeErr (l.getD (named
  (opdsOf (slOpds l)) o.base).toNat opd0).ty = (0 : Int)) ∧ Ob (aOpd o = aOpd o ∧ typeErr o.ty = (0 : Int)) ∧ Ob (inI64 (size (l.getD (named (opdsOf (slOpds l)) o.base).toNat
  opd0).ty - size o.ty)) ∧ (bif !(decide ((0 : Int) ≤ o.off) && decide (o.off ≤ size (l.getD (named (opdsOf (slOpds l)) o.base).toNat opd0).ty - size o.ty)) then (3 : Int) else
  (0 : Int)) = (0 : Int))))) (by kernel_rfl) ?_⟩
    have hlt := named_lt l o.base
    simp only [opds_sl, exOpds, ex2, firstTwo, Ob_iff, inI64, decide_eq_true_eq, decide_eq_false_iff_not, Bool.not_eq_true', Bool.not_eq_false', true_and]
    generalize named l o.base = N at *
    generalize l.getD N.toNat opd0 = u at *
    by_cases h2 : o.kind = 2
    · simp only [if_pos h2] at hk ho2
      simp [h2, hk, ho, ho2, h0, hlt]
    · obtain ⟨t1, t2⟩ := ht h2
      have s1 := size_facts t1
      have s2 := size_facts t2
      simp only [if_neg h2] at hk ho2
      simp [h2, hk, ho, ho2, h0, hlt, t1, t2]
      omega
  · exact (Tr.run_fail hr).elim
theorem getD_take {l : List Opd} {i n : Nat} (h : i < n) : (l.take n).getD i opd0 = l.getD i opd0 := by
  rw [List.getD_eq_getElem?_getD, List.getD_eq_getElem?_getD, List.getElem?_take, if_pos h]
theorem take_sl (l : List Opd) (n : Nat) (h : n ≤ l.length) : eqv (slOpds (l.take n)) (AV.sl false 10 n (fun i => cOpd (l.getD (0 + i) opd0))) := by
  have hl : (l.take n).length = n := by simp; omega
  refine ⟨hl.symm, fun i hi => ?_⟩
  rw [hl] at hi
  show cOpd (l.getD (0 + i) opd0) = cOpd ((l.take n).getD i opd0)
  rw [getD_take hi, Nat.zero_add]
theorem named_take {s : Str} : ∀ {l : List Opd} {n : Nat}, named (l.take n) s = if 0 ≤ named l s ∧ named l s < n then named l s else -1
  | [], n => by simp [named]
  | o :: r, 0 => by
    have : ¬ (0 ≤ named (o :: r) s ∧ named (o :: r) s < ((0 : Nat) : Int)) := by omega
    rw [if_neg this]; rfl
  | o :: r, n + 1 => by
    have hg := named_ge r s
    have ih := named_take (s := s) (l := r) (n := n)
    have e1 : named (o :: r) s = if o.name = s then 0 else if named r s < 0 then -1 else named r s + 1 := rfl
    have e2 : named ((o :: r).take (n + 1)) s = if o.name = s then 0 else if named (r.take n) s < 0 then -1 else named (r.take n) s + 1 := rfl
    rw [e1, e2, ih]
    by_cases h : o.name = s
    · simp [h]
      try omega
    · simp only [if_neg h]
      by_cases h1 : named r s < 0
      · have : ¬ (0 ≤ named r s ∧ named r s < n) := by omega
        simp [h1, this]
      · simp only [if_neg h1]
        by_cases h2 : named r s < n
        · have c1 : 0 ≤ named r s ∧ named r s < (n : Int) := by omega
          have c2 : 0 ≤ named r s + 1 ∧ named r s + 1 < ((n + 1 : Nat) : Int) := by omega
          rw [if_pos c1, if_neg h1, if_pos c2]
        · have c1 : ¬ (0 ≤ named r s ∧ named r s < (n : Int)) := by omega
          have c2 : ¬ (0 ≤ named r s + 1 ∧ named r s + 1 < ((n + 1 : Nat) : Int)) := by omega
          rw [if_neg c1, if_neg c2]; rfl
theorem opds_take (l : List Opd) (n : Nat) (h : n ≤ l.length) : opdsOf (AV.sl false 10 (n - 0) (fun i => cOpd (l.getD (0 + i) opd0))) = l.take n := opds_eqv (take_sl l n h)
structure OpRight (p : Prg) (i : Nat) (o : Opd) : Prop where
  name : isName o.name = true
  twice : ¬ named p.ops o.name < (i : Int)
  k0 : 0 ≤ o.kind
  k5 : o.kind ≤ 5
  extra : hasExtra o = false
  ty : isData o.kind = true → typeErr o.ty = 0 ∧ o.ty.k ≠ 4
  val : o.kind = 0 ∨ o.kind = 4 → valueErr o.ty o.n o.v = 0
  base : o.kind = 1 ∨ o.kind = 2 → 0 ≤ named p.ops o.base ∧ named p.ops o.base < (i : Int) ∧ (p.ops.getD (named p.ops o.base).toNat opd0).kind = (if o.kind = 2 then 3 else 0) ∧
    0 ≤ o.off ∧ o.off ≤ (if o.kind = 2 then 256 else size (p.ops.getD (named p.ops o.base).toNat opd0).ty - size o.ty)
  tgt : o.kind = 5 → 0 ≤ o.tgt ∧ o.tgt ≤ (p.ins.length : Int) - 1
theorem chk_cons {b : Bool} {e : Int} {r : List (Bool × Int)} (h : chk ((b, e) :: r) = 0) (he : b = true → e ≠ 0) : b = false ∧ chk r = 0 := by
  cases b with
  | true => exact absurd h (he rfl)
  | false => exact ⟨rfl, h⟩
theorem opRight {p : Prg} {i : Nat} (h : opErr p i = 0) : OpRight p i (p.ops.getD i opd0) := by
  have hg := named_ge p.ops (p.ops.getD i opd0).base
  unfold opErr at h
  simp only at h
  obtain ⟨h1, h⟩ := chk_cons h (fun _ => by omega)
  obtain ⟨h2, h⟩ := chk_cons h (fun _ => by omega)
  obtain ⟨h3, h⟩ := chk_cons h (fun _ => by omega)
  obtain ⟨h4, h⟩ := chk_cons h (fun _ => by omega)
  obtain ⟨h5, h⟩ := chk_cons h (fun hb => by simp only [Bool.and_eq_true, decide_eq_true_eq] at hb; exact hb.2)
  obtain ⟨h6, h⟩ := chk_cons h (fun _ => by omega)
  obtain ⟨h7, h⟩ := chk_cons h (fun hb => by simp only [Bool.and_eq_true, decide_eq_true_eq] at hb; exact hb.2)
  obtain ⟨h8, h⟩ := chk_cons h (fun _ => by omega)
  obtain ⟨h9, h⟩ := chk_cons h (fun _ => by omega)
  obtain ⟨h10, h⟩ := chk_cons h (fun _ => by omega)
  obtain ⟨h11, h⟩ := chk_cons h (fun _ => by omega)
  generalize p.ops.getD i opd0 = o at *
  simp only [Bool.not_eq_false', decide_eq_true_eq, decide_eq_false_iff_not, Bool.and_eq_false_iff] at h1 h2 h3 h5 h6 h7 h8 h9 h10 h11
  refine ⟨h1, h2, h3.1, h3.2, h4, fun hd => ⟨?_, ?_⟩, fun hk => ?_, fun hk => ⟨?_, ?_, ?_, ?_, ?_⟩, fun hk => ?_⟩
  · rcases h5 with h5 | h5
    · rw [hd] at h5; cases h5
    · exact Decidable.not_not.1 h5
  · rcases h6 with h6 | h6
    · rw [hd] at h6; cases h6
    · exact h6
  · rcases h7 with h7 | h7
    · exact absurd hk h7
    · exact Decidable.not_not.1 h7
  · rcases h8 with h8 | h8
    · exact absurd hk h8
    · omega
  · rcases h8 with h8 | h8
    · exact absurd hk h8
    · omega
  · rcases h9 with h9 | h9
    · exact absurd hk h9
    · exact Decidable.not_not.1 h9
  · rcases h10 with h10 | h10
    · exact absurd hk h10
    · exact h10.1
  · rcases h10 with h10 | h10
    · exact absurd hk h10
    · exact h10.2
  · rcases h11 with h11 | h11
    · exact absurd hk h11
    · exact h11
def CbaseNeed (p : Prg) (i : Nat) (o : Opd) : Prop := (o.kind = 1 ∨ o.kind = 2) → aOpd o = aOpd (opdOf (aOpd o)) ∧
    (∃ l, eqv (slOpds l) (AV.sl false 10 (i - 0) (fun j => cOpd (p.ops.getD (0 + j) opd0))) ∧ 0 ≤ named l o.base ∧ (l.getD (named l o.base).toNat opd0).kind = (if o.kind = 2 then 3 else 0) ∧
      (o.kind ≠ 2 → typeErr o.ty = 0 ∧ typeErr (l.getD (named l o.base).toNat opd0).ty = 0) ∧
      0 ≤ o.off ∧ o.off ≤ (if o.kind = 2 then 256 else size (l.getD (named l o.base).toNat opd0).ty - size o.ty))
theorem cbase_need {p : Prg} {i : Nat} {o : Opd} (hi : i < p.ops.length) (hR : ∀ k, k ≤ i → opErr p k = 0) (R : OpRight p i o) : CbaseNeed p i o := by
  intro hk
  obtain ⟨b1, b2, b3, b4, b5⟩ := R.base hk
  have hn : named (p.ops.take i) o.base = named p.ops o.base := by rw [named_take, if_pos ⟨b1, b2⟩]
  have hg : (p.ops.take i).getD (named p.ops o.base).toNat opd0 = p.ops.getD (named p.ops o.base).toNat opd0 := getD_take (by omega)
  refine ⟨rfl, p.ops.take i, take_sl p.ops i (by omega), ?_⟩
  rw [hn, hg]
  refine ⟨b1, b3, fun h2 => ⟨(R.ty (by unfold isData; simp only [decide_eq_true_eq]; omega)).1, ?_⟩, b4, b5⟩
  have hu := opRight (hR (named p.ops o.base).toNat (by omega))
  rw [if_neg h2] at b3
  exact (hu.ty (by unfold isData; simp only [decide_eq_true_eq]; omega)).1
noncomputable def CopErr : Con
  | [v, .int .i64 i] => .need (∃ p, eqv (aPrg p) v ∧ 0 ≤ i ∧ RightTo p i.toNat) (.ret (.int .i64 0))
  | _ => .fail
theorem ok63 : Ok m 63 CopErr := fn_ok2 (cons_cons ok44 (cons_cons ok62 (cons_cons ok50 (cons_cons ok91 (cons_cons ok92 (cons_cons ok61 (cons_cons ok93 (cons_cons ok94 (cons_cons ok95 (cons_cons ok96 cons_nil)))))))))) Tryz.func63 (by kernel_rfl) fun xs r hr hp => by
  unfold CopErr at hr
  split at hr
  · rename_i v i
    obtain ⟨⟨p, hl, h0, hR⟩, hr⟩ := Tr.run_need hr
    obtain rfl := Tr.run_ret hr
    have hb := prg_small hl hp.1
    refine ⟨[aPrg p, .int .i64 i], [], prg_args hl _, of_nice (Ob ((0 : Int) ≤ i ∧ i < (↑p.ops.length : Int)) ∧ Ob ((0 : Int) ≤ i ∧ i ≤ (↑p.ops.length : Int)) ∧ Ob (∃ (l : List Opd), eqv (slOpds l) (AV.sl false (10 : Nat) (i.toNat - (0 :
  Nat)) fun (i : Nat) => cOpd (p.ops.getD ((0 : Nat) + i) opd0))) ∧ Ob (aOpd (p.ops.getD i.toNat opd0) = aOpd (p.ops.getD i.toNat opd0) ∧ hasExtra (p.ops.getD i.toNat opd0) =
  false ∧ (0 : Int) ≤ (p.ops.getD i.toNat opd0).kind ∧ (p.ops.getD i.toNat opd0).kind ≤ (5 : Int)) ∧ Ob (∃ (l : List Int), eqv (slInts l) (AV.sl true (1 : Nat) (4 : Nat) fun (i_1
  : Nat) => List.take (1 : Nat) (List.drop (i_1 * (1 : Nat)) [AV.int IntKind.i64 (bif !isName (p.ops.getD i.toNat opd0).name then (7 : Int) else (0 : Int)), AV.int IntKind.i64
  (bif decide ((0 : Int) ≤ named (opdsOf (AV.sl false (10 : Nat) (i.toNat - (0 : Nat)) fun (i : Nat) => cOpd (p.ops.getD ((0 : Nat) + i) opd0))) (p.ops.getD i.toNat opd0).name)
  then (13 : Int) else (0 : Int)), AV.int IntKind.i64 (bif !(decide ((0 : Int) ≤ (p.ops.getD i.toNat opd0).kind) && decide ((p.ops.getD i.toNat opd0).kind ≤ (5 : Int))) then (4 :
  Int) else (0 : Int)), AV.int IntKind.i64 (bif !(decide ((p.ops.getD i.toNat opd0).name = (p.ops.getD i.toNat opd0).name) && (decide ((p.ops.getD i.toNat opd0).kind =
  (p.ops.getD i.toNat opd0).kind) && (decide ((p.ops.getD i.toNat opd0).ty.k = (p.ops.getD i.toNat opd0).ty.k) && (decide ((p.ops.getD i.toNat opd0).ty.l = (p.ops.getD i.toNat
  opd0).ty.l) && (decide ((p.ops.getD i.toNat opd0).ty.s = (p.ops.getD i.toNat opd0).ty.s) && (decide ((p.ops.getD i.toNat opd0).n = (p.ops.getD i.toNat opd0).n) && (decide
  ((p.ops.getD i.toNat opd0).v = (p.ops.getD i.toNat opd0).v) && (decide ((p.ops.getD i.toNat opd0).base = (p.ops.getD i.toNat opd0).base) && (decide ((p.ops.getD i.toNat
  opd0).off = (p.ops.getD i.toNat opd0).off) && (decide ((p.ops.getD i.toNat opd0).tgt = (p.ops.getD i.toNat opd0).tgt) && true)))))))))) then (5 : Int) else (0 : Int))]))) ∧
  ((!decide (firstNZ [bif !isName (p.ops.getD i.toNat opd0).name then (7 : Int) else (0 : Int), bif decide ((0 : Int) ≤ named (opdsOf (AV.sl false (10 : Nat) (i.toNat - (0 :
  Nat)) fun (i : Nat) => cOpd (p.ops.getD ((0 : Nat) + i) opd0))) (p.ops.getD i.toNat opd0).name) then (13 : Int) else (0 : Int), bif !(decide ((0 : Int) ≤ (p.ops.getD i.toNat
  opd0).kind) && decide ((p.ops.getD i.toNat opd0).kind ≤ (5 : Int))) then (4 : Int) else (0 : Int), bif !(decide ((p.ops.getD i.toNat opd0).name = (p.ops.getD i.toNat
  opd0).name) && (decide ((p.ops.getD i.toNat opd0).kind = (p.ops.getD i.toNat opd0).kind) && (decide ((p.ops.getD i.toNat opd0).ty.k = (p.ops.getD i.toNat opd0).ty.k) && (decide
  ((p.ops.getD i.toNat opd0).ty.l = (p.ops.getD i.toNat opd0).ty.l) && (decide ((p.ops.getD i.toNat opd0).ty.s = (p.ops.getD i.toNat opd0).ty.s) && (decide ((p.ops.getD i.toNat
  opd0).n = (p.ops.getD i.toNat opd0).n) && (decide ((p.ops.getD i.toNat opd0).v = (p.ops.getD i.toNat opd0).v) && (decide ((p.ops.getD i.toNat opd0).base = (p.ops.getD i.toNat
  opd0).base) && (decide ((p.ops.getD i.toNat opd0).off = (p.ops.getD i.toNat opd0).off) && (decide ((p.ops.getD i.toNat opd0).tgt = (p.ops.getD i.toNat opd0).tgt) &&
  true)))))))))) then (5 : Int) else (0 : Int)] = (0 : Int))) = true → firstNZ [bif !isName (p.ops.getD i.toNat opd0).name then (7 : Int) else (0 : Int), bif decide ((0 : Int) ≤
  named (opdsOf (AV.sl false (10 : Nat) (i.toNat - (0 : Nat)) fun (i : Nat) => cOpd (p.ops.getD ((0 : Nat) + i) opd0))) (p.ops.getD i.toNat opd0).name) then (13 : Int) else (0 :
  Int), bif !(decide ((0 : Int) ≤ (p.ops.getD i.toNat opd0).kind) && decide ((p.ops.getD i.toNat opd0).kind ≤ (5 : Int))) then (4 : Int) else (0 : Int), bif !(decide ((p.ops.getD
  i.toNat opd0).name = (p.ops.getD i.toNat opd0).name) && (decide ((p.ops.getD i.toNat opd0).kind = (p.ops.getD i.toNat opd0).kind) && (decide ((p.ops.getD i.toNat opd0).ty.k =
  (p.ops.getD i.toNat opd0).ty.k) && (decide ((p.ops.getD i.toNat opd0).ty.l = (p.ops.getD i.toNat opd0).ty.l) && (decide ((p.ops.getD i.toNat opd0).ty.s = (p.ops.getD i.toNat
  opd0).ty.s) && (decide ((p.ops.getD i.toNat opd0).n = (p.ops.getD i.toNat opd0).n) && (decide ((p.ops.getD i.toNat opd0).v = (p.ops.getD i.toNat opd0).v) && (decide
  ((p.ops.getD i.toNat opd0).base = (p.ops.getD i.toNat opd0).base) && (decide ((p.ops.getD i.toNat opd0).off = (p.ops.getD i.toNat opd0).off) && (decide ((p.ops.getD i.toNat
  opd0).tgt = (p.ops.getD i.toNat opd0).tgt) && true)))))))))) then (5 : Int) else (0 : Int)] = (0 : Int)) ∧ ((!decide (firstNZ [bif !isName (p.ops.getD i.toNat opd0).name then
  (7 : Int) else (0 : Int), bif decide ((0 : Int) ≤ named (opdsOf (AV.sl false (10 : Nat) (i.toNat - (0 : Nat)) fun (i : Nat) => cOpd (p.ops.getD ((0 : Nat) + i) opd0)))
  (p.ops.getD i.toNat opd0).name) then (13 : Int) else (0 : Int), bif !(decide ((0 : Int) ≤ (p.ops.getD i.toNat opd0).kind) && decide ((p.ops.getD i.toNat opd0).kind ≤ (5 :
  Int))) then (4 : Int) else (0 : Int), bif !(decide ((p.ops.getD i.toNat opd0).name = (p.ops.getD i.toNat opd0).name) && (decide ((p.ops.getD i.toNat opd0).kind = (p.ops.getD
  i.toNat opd0).kind) && (decide ((p.ops.getD i.toNat opd0).ty.k = (p.ops.getD i.toNat opd0).ty.k) && (decide ((p.ops.getD i.toNat opd0).ty.l = (p.ops.getD i.toNat opd0).ty.l) &&
  (decide ((p.ops.getD i.toNat opd0).ty.s = (p.ops.getD i.toNat opd0).ty.s) && (decide ((p.ops.getD i.toNat opd0).n = (p.ops.getD i.toNat opd0).n) && (decide ((p.ops.getD i.toNat
  opd0).v = (p.ops.getD i.toNat opd0).v) && (decide ((p.ops.getD i.toNat opd0).base = (p.ops.getD i.toNat opd0).base) && (decide ((p.ops.getD i.toNat opd0).off = (p.ops.getD
  i.toNat opd0).off) && (decide ((p.ops.getD i.toNat opd0).tgt = (p.ops.getD i.toNat opd0).tgt) && true)))))))))) then (5 : Int) else (0 : Int)] = (0 : Int))) = false → Ob (aOpd
  (p.ops.getD i.toNat opd0) = aOpd (p.ops.getD i.toNat opd0)) ∧ (isData (p.ops.getD i.toNat opd0).kind = true → Ob (aTy (p.ops.getD i.toNat opd0).ty = aTy (p.ops.getD i.toNat
  opd0).ty) ∧ Ob (∃ (l : List Int), eqv (slInts l) (AV.sl true (1 : Nat) (2 : Nat) fun (i_1 : Nat) => List.take (1 : Nat) (List.drop (i_1 * (1 : Nat)) [AV.int IntKind.i64
  (typeErr (p.ops.getD i.toNat opd0).ty), AV.int IntKind.i64 (bif decide ((p.ops.getD i.toNat opd0).ty.k = (4 : Int)) then (17 : Int) else (0 : Int))]))) ∧ ((!decide (firstNZ
  [typeErr (p.ops.getD i.toNat opd0).ty, bif decide ((p.ops.getD i.toNat opd0).ty.k = (4 : Int)) then (17 : Int) else (0 : Int)] = (0 : Int))) = true → firstNZ [typeErr
  (p.ops.getD i.toNat opd0).ty, bif decide ((p.ops.getD i.toNat opd0).ty.k = (4 : Int)) then (17 : Int) else (0 : Int)] = (0 : Int)) ∧ ((!decide (firstNZ [typeErr (p.ops.getD
  i.toNat opd0).ty, bif decide ((p.ops.getD i.toNat opd0).ty.k = (4 : Int)) then (17 : Int) else (0 : Int)] = (0 : Int))) = false → (decide ((p.ops.getD i.toNat opd0).kind = (0 :
  Int)) = true → Ob (aTy (p.ops.getD i.toNat opd0).ty = aTy (p.ops.getD i.toNat opd0).ty ∧ aVal (p.ops.getD i.toNat opd0).n (p.ops.getD i.toNat opd0).v = aVal (p.ops.getD i.toNat
  opd0).n (p.ops.getD i.toNat opd0).v) ∧ valueErr (p.ops.getD i.toNat opd0).ty (p.ops.getD i.toNat opd0).n (p.ops.getD i.toNat opd0).v = (0 : Int)) ∧ (decide ((p.ops.getD i.toNat
  opd0).kind = (0 : Int)) = false → (decide ((p.ops.getD i.toNat opd0).kind = (4 : Int)) = true → Ob (aTy (p.ops.getD i.toNat opd0).ty = aTy (p.ops.getD i.toNat opd0).ty ∧ aVal
  (p.ops.getD i.toNat opd0).n (p.ops.getD i.toNat opd0).v = aVal (p.ops.getD i.toNat opd0).n (p.ops.getD i.toNat opd0).v) ∧ valueErr (p.ops.getD i.toNat opd0).ty (p.ops.getD
  i.toNat opd0).n (p.ops.getD i.toNat opd0).v = (0 : Int)) ∧ (decide ((p.ops.getD i.toNat opd0).kind = (4 : Int)) = false → (decide ((p.ops.getD i.toNat opd0).kind = (1 : Int)) =
  true → Ob (aOpd (p.ops.getD i.toNat opd0) = aOpd (p.ops.getD i.toNat opd0) ∧ ∃ (l : List Opd), eqv (slOpds l) (AV.sl false (10 : Nat) (i.toNat - (0 : Nat)) fun (i : Nat) =>
  cOpd (p.ops.getD ((0 : Nat) + i) opd0)) ∧ (0 : Int) ≤ named l (p.ops.getD i.toNat opd0).base ∧ ((l.getD (named l (p.ops.getD i.toNat opd0).base).toNat opd0).kind = if
  (p.ops.getD i.toNat opd0).kind = (2 : Int) then (3 : Int) else (0 : Int)) ∧ ((p.ops.getD i.toNat opd0).kind ≠ (2 : Int) → typeErr (p.ops.getD i.toNat opd0).ty = (0 : Int) ∧
  typeErr (l.getD (named l (p.ops.getD i.toNat opd0).base).toNat opd0).ty = (0 : Int)) ∧ (0 : Int) ≤ (p.ops.getD i.toNat opd0).off ∧ (p.ops.getD i.toNat opd0).off ≤ if
  (p.ops.getD i.toNat opd0).kind = (2 : Int) then (256 : Int) else size (l.getD (named l (p.ops.getD i.toNat opd0).base).toNat opd0).ty - size (p.ops.getD i.toNat opd0).ty) ∧ (0
  : Int) = (0 : Int)) ∧ (decide ((p.ops.getD i.toNat opd0).kind = (1 : Int)) = false → (decide ((p.ops.getD i.toNat opd0).kind = (2 : Int)) = true → Ob (aOpd (p.ops.getD i.toNat
  opd0) = aOpd (p.ops.getD i.toNat opd0) ∧ ∃ (l : List Opd), eqv (slOpds l) (AV.sl false (10 : Nat) (i.toNat - (0 : Nat)) fun (i : Nat) => cOpd (p.ops.getD ((0 : Nat) + i) opd0))
  ∧ (0 : Int) ≤ named l (p.ops.getD i.toNat opd0).base ∧ ((l.getD (named l (p.ops.getD i.toNat opd0).base).toNat opd0).kind = if (p.ops.getD i.toNat opd0).kind = (2 : Int) then
  (3 : Int) else (0 : Int)) ∧ ((p.ops.getD i.toNat opd0).kind ≠ (2 : Int) → typeErr (p.ops.getD i.toNat opd0).ty = (0 : Int) ∧ typeErr (l.getD (named l (p.ops.getD i.toNat
  opd0).base).toNat opd0).ty = (0 : Int)) ∧ (0 : Int) ≤ (p.ops.getD i.toNat opd0).off ∧ (p.ops.getD i.toNat opd0).off ≤ if (p.ops.getD i.toNat opd0).kind = (2 : Int) then (256 :
  Int) else size (l.getD (named l (p.ops.getD i.toNat opd0).base).toNat opd0).ty - size (p.ops.getD i.toNat opd0).ty) ∧ (0 : Int) = (0 : Int)) ∧ (decide ((p.ops.getD i.toNat
  opd0).kind = (2 : Int)) = false → (decide ((p.ops.getD i.toNat opd0).kind = (5 : Int)) = true → Ob (inI64 ((↑p.ins.length : Int) - (1 : Int))) ∧ (bif !(decide ((0 : Int) ≤
  (p.ops.getD i.toNat opd0).tgt) && decide ((p.ops.getD i.toNat opd0).tgt ≤ (↑p.ins.length : Int) - (1 : Int))) then (3 : Int) else (0 : Int)) = (0 : Int)) ∧ (decide ((p.ops.getD
  i.toNat opd0).kind = (5 : Int)) = false → (0 : Int) = (0 : Int)))))))) ∧ (isData (p.ops.getD i.toNat opd0).kind = false → (decide ((p.ops.getD i.toNat opd0).kind = (0 : Int)) =
  true → Ob (aTy (p.ops.getD i.toNat opd0).ty = aTy (p.ops.getD i.toNat opd0).ty ∧ aVal (p.ops.getD i.toNat opd0).n (p.ops.getD i.toNat opd0).v = aVal (p.ops.getD i.toNat opd0).n
  (p.ops.getD i.toNat opd0).v) ∧ valueErr (p.ops.getD i.toNat opd0).ty (p.ops.getD i.toNat opd0).n (p.ops.getD i.toNat opd0).v = (0 : Int)) ∧ (decide ((p.ops.getD i.toNat
  opd0).kind = (0 : Int)) = false → (decide ((p.ops.getD i.toNat opd0).kind = (4 : Int)) = true → Ob (aTy (p.ops.getD i.toNat opd0).ty = aTy (p.ops.getD i.toNat opd0).ty ∧ aVal
  (p.ops.getD i.toNat opd0).n (p.ops.getD i.toNat opd0).v = aVal (p.ops.getD i.toNat opd0).n (p.ops.getD i.toNat opd0).v) ∧ valueErr (p.ops.getD i.toNat opd0).ty (p.ops.getD
  i.toNat opd0).n (p.ops.getD i.toNat opd0).v = (0 : Int)) ∧ (decide ((p.ops.getD i.toNat opd0).kind = (4 : Int)) = false → (decide ((p.ops.getD i.toNat opd0).kind = (1 : Int)) =
  true → Ob (aOpd (p.ops.getD i.toNat opd0) = aOpd (p.ops.getD i.toNat opd0) ∧ ∃ (l : List Opd), eqv (slOpds l) (AV.sl false (10 : Nat) (i.toNat - (0 : Nat)) fun (i : Nat) =>
  cOpd (p.ops.getD ((0 : Nat) + i) opd0)) ∧ (0 : Int) ≤ named l (p.ops.getD i.toNat opd0).base ∧ ((l.getD (named l (p.ops.getD i.toNat opd0).base).toNat opd0).kind = if
  (p.ops.getD i.toNat opd0).kind = (2 : Int) then (3 : Int) else (0 : Int)) ∧ ((p.ops.getD i.toNat opd0).kind ≠ (2 : Int) → typeErr (p.ops.getD i.toNat opd0).ty = (0 : Int) ∧
  typeErr (l.getD (named l (p.ops.getD i.toNat opd0).base).toNat opd0).ty = (0 : Int)) ∧ (0 : Int) ≤ (p.ops.getD i.toNat opd0).off ∧ (p.ops.getD i.toNat opd0).off ≤ if
  (p.ops.getD i.toNat opd0).kind = (2 : Int) then (256 : Int) else size (l.getD (named l (p.ops.getD i.toNat opd0).base).toNat opd0).ty - size (p.ops.getD i.toNat opd0).ty) ∧ (0
  : Int) = (0 : Int)) ∧ (decide ((p.ops.getD i.toNat opd0).kind = (1 : Int)) = false → (decide ((p.ops.getD i.toNat opd0).kind = (2 : Int)) = true → Ob (aOpd (p.ops.getD i.toNat
  opd0) = aOpd (p.ops.getD i.toNat opd0) ∧ ∃ (l : List Opd), eqv (slOpds l) (AV.sl false (10 : Nat) (i.toNat - (0 : Nat)) fun (i : Nat) => cOpd (p.ops.getD ((0 : Nat) + i) opd0))
  ∧ (0 : Int) ≤ named l (p.ops.getD i.toNat opd0).base ∧ ((l.getD (named l (p.ops.getD i.toNat opd0).base).toNat opd0).kind = if (p.ops.getD i.toNat opd0).kind = (2 : Int) then
  (3 : Int) else (0 : Int)) ∧ ((p.ops.getD i.toNat opd0).kind ≠ (2 : Int) → typeErr (p.ops.getD i.toNat opd0).ty = (0 : Int) ∧ typeErr (l.getD (named l (p.ops.getD i.toNat
  opd0).base).toNat opd0).ty = (0 : Int)) ∧ (0 : Int) ≤ (p.ops.getD i.toNat opd0).off ∧ (p.ops.getD i.toNat opd0).off ≤ if (p.ops.getD i.toNat opd0).kind = (2 : Int) then (256 :
  Int) else size (l.getD (named l (p.ops.getD i.toNat opd0).base).toNat opd0).ty - size (p.ops.getD i.toNat opd0).ty) ∧ (0 : Int) = (0 : Int)) ∧ (decide ((p.ops.getD i.toNat
  opd0).kind = (2 : Int)) = false → (decide ((p.ops.getD i.toNat opd0).kind = (5 : Int)) = true → Ob (inI64 ((↑p.ins.length : Int) - (1 : Int))) ∧ (bif !(decide ((0 : Int) ≤
  (p.ops.getD i.toNat opd0).tgt) && decide ((p.ops.getD i.toNat opd0).tgt ≤ (↑p.ins.length : Int) - (1 : Int))) then (3 : Int) else (0 : Int)) = (0 : Int)) ∧ (decide ((p.ops.getD
  i.toNat opd0).kind = (5 : Int)) = false → (0 : Int) = (0 : Int))))))))) (by kernel_rfl) ?_⟩
    have hi : i.toNat < p.ops.length := hR.1
    have hile := Nat.le_of_lt hi
    have R := opRight (hR.2 i.toNat (Nat.le_refl _))
    have hlen : p.ins.length ≤ maxLen := hb.2.1
    have hR2 := hR.2
    clear hl hp hr hR hb
    have hsl := take_sl p.ops i.toNat hile
    have hbase : CbaseNeed p i.toNat (p.ops.getD i.toNat opd0) := cbase_need hi hR2 R
    simp only [opds_take p.ops i.toNat hile]
    generalize p.ops.getD i.toNat opd0 = o at *
    have e1 : named (p.ops.take i.toNat) o.name = -1 := by rw [named_take, if_neg (fun e => R.twice e.2)]
    simp only [e1]
    refine And.intro ⟨by omega⟩ (And.intro ⟨by omega⟩ (And.intro ⟨⟨_, hsl⟩⟩ (And.intro ⟨(by first | rfl | trivial), R.extra, R.k0, R.k5⟩ ?_)))
    simp only [ex4, ex2, Ob_iff]
    have hk : o.kind = 0 ∨ o.kind = 1 ∨ o.kind = 2 ∨ o.kind = 3 ∨ o.kind = 4 ∨ o.kind = 5 := by have := R.k0; have := R.k5; omega
    have r1 := R.name
    have r6 := R.ty
    have r7 := R.val
    have r9 := R.tgt
    unfold maxLen at hlen
    unfold CbaseNeed at hbase
    rcases hk with hk | hk | hk | hk | hk | hk <;> simp [hk, isData] at r6 r7 r9 hbase <;> simp [hk, isData, r1, r6, r7, r9, hbase, Ob_iff, ex4, ex2, firstNZ, inI64]
    · obtain ⟨_, l, q1, q2, q3, q4, q5, q6⟩ := hbase
      exact ⟨l, q1, q2, q3, q4.2, q5, q6⟩
    · constructor <;> omega
  · exact (Tr.run_fail hr).elim
theorem aPrg_refl (p : Prg) : eqv (aPrg p) (aPrg p) := ⟨⟨rfl, fun _ _ => rfl⟩, ⟨rfl, fun _ _ => rfl⟩, rfl, fun _ _ => rfl⟩
theorem prg_c (p : Prg) : prgOf (aPrg p) = p := prg_eqv (aPrg_refl p)
theorem exPrg (p : Prg) : (∃ q : Prg, eqv (aPrg q) (aPrg p)) ↔ True := ⟨fun _ => trivial, fun _ => ⟨p, aPrg_refl p⟩⟩
end Go.Proofs.YtgcnbicoajjlaaaGreatDoor
end
section
set_option linter.unusedVariables false
set_option linter.unusedSimpArgs false
set_option maxRecDepth 100000
namespace Go.Proofs.YtgcnbicoajjlaaaGreatDoor
open Go Go.Eng Go.Tx
variable {m : Int}
noncomputable def CopErrR : Con
  | [v, .int .i64 i] => .need (∃ p, eqv (aPrg p) v ∧ 0 ≤ i ∧ i.toNat < p.ops.length ∧ ∀ k, k < i.toNat → opErr p k = 0) (.ret (.int .i64 (opErr (prgOf v) i.toNat)))
  | _ => .fail
set_option maxHeartbeats 4000000 in
theorem ok28 : Ok m 28 CopErrR := fn_ok2 (cons_cons ok51 (cons_cons ok52 (cons_cons ok6 (cons_cons ok53 (cons_cons ok54 (cons_cons ok55 (cons_cons ok56 (cons_cons ok57 cons_nil)))))))) Tryz.func28 (by kernel_rfl) fun xs r hr hp => by
  unfold CopErrR at hr
  split at hr
  · rename_i v i
    obtain ⟨⟨p, hl, h0, hi, hR⟩, hr⟩ := Tr.run_need hr
    obtain rfl := Tr.run_ret hr
    have hb := prg_small hl hp.1
    rw [prg_eqv hl]
    refine ⟨[aPrg p, .int .i64 i], [], prg_args hl _, of_nice (Ob ((0 : Int) ≤ i ∧ i < (↑p.ops.length : Int)) ∧ ((!isName (p.ops.getD i.toNat opd0).name) = true → (7 : Int) = opErr p i.toNat) ∧ ((!isName (p.ops.getD i.toNat opd0).name) =
  false → Ob (∃ (p_1 : Prg), eqv (aPrg p_1) (aPrg p)) ∧ (decide (named (prgOf (aPrg p)).ops (p.ops.getD i.toNat opd0).name < i) = true → (13 : Int) = opErr p i.toNat) ∧ (decide
  (named (prgOf (aPrg p)).ops (p.ops.getD i.toNat opd0).name < i) = false → ((!(decide ((0 : Int) ≤ (p.ops.getD i.toNat opd0).kind) && decide ((p.ops.getD i.toNat opd0).kind ≤ (5
  : Int)))) = true → (4 : Int) = opErr p i.toNat) ∧ ((!(decide ((0 : Int) ≤ (p.ops.getD i.toNat opd0).kind) && decide ((p.ops.getD i.toNat opd0).kind ≤ (5 : Int)))) = false → Ob
  (aOpd (p.ops.getD i.toNat opd0) = aOpd (p.ops.getD i.toNat opd0)) ∧ (hasExtra (p.ops.getD i.toNat opd0) = true → (5 : Int) = opErr p i.toNat) ∧ (hasExtra (p.ops.getD i.toNat
  opd0) = false → (isData (p.ops.getD i.toNat opd0).kind = true → Ob (aTy (p.ops.getD i.toNat opd0).ty = aTy (p.ops.getD i.toNat opd0).ty) ∧ ((!decide (typeErr (p.ops.getD
  i.toNat opd0).ty = (0 : Int))) = true → typeErr (p.ops.getD i.toNat opd0).ty = opErr p i.toNat) ∧ ((!decide (typeErr (p.ops.getD i.toNat opd0).ty = (0 : Int))) = false →
  (decide ((p.ops.getD i.toNat opd0).ty.k = (4 : Int)) = true → (17 : Int) = opErr p i.toNat) ∧ (decide ((p.ops.getD i.toNat opd0).ty.k = (4 : Int)) = false → Ob (∃ (p_1 : Prg),
  eqv (aPrg p_1) (aPrg p)) ∧ (decide ((p.ops.getD i.toNat opd0).kind = (0 : Int)) = true → Ob (aTy (p.ops.getD i.toNat opd0).ty = aTy (p.ops.getD i.toNat opd0).ty ∧ aVal
  (p.ops.getD i.toNat opd0).n (p.ops.getD i.toNat opd0).v = aVal (p.ops.getD i.toNat opd0).n (p.ops.getD i.toNat opd0).v) ∧ valueErr (p.ops.getD i.toNat opd0).ty (p.ops.getD
  i.toNat opd0).n (p.ops.getD i.toNat opd0).v = opErr p i.toNat) ∧ (decide ((p.ops.getD i.toNat opd0).kind = (0 : Int)) = false → (decide ((p.ops.getD i.toNat opd0).kind = (4 :
  Int)) = true → Ob (aTy (p.ops.getD i.toNat opd0).ty = aTy (p.ops.getD i.toNat opd0).ty ∧ aVal (p.ops.getD i.toNat opd0).n (p.ops.getD i.toNat opd0).v = aVal (p.ops.getD i.toNat
  opd0).n (p.ops.getD i.toNat opd0).v) ∧ valueErr (p.ops.getD i.toNat opd0).ty (p.ops.getD i.toNat opd0).n (p.ops.getD i.toNat opd0).v = opErr p i.toNat) ∧ (decide ((p.ops.getD
  i.toNat opd0).kind = (4 : Int)) = false → (decide ((p.ops.getD i.toNat opd0).kind = (1 : Int)) = true → ((decide (named (prgOf (aPrg p)).ops (p.ops.getD i.toNat opd0).base =
  (-1 : Int)) || decide (i ≤ named (prgOf (aPrg p)).ops (p.ops.getD i.toNat opd0).base)) = true → (11 : Int) = opErr p i.toNat) ∧ ((decide (named (prgOf (aPrg p)).ops (p.ops.getD
  i.toNat opd0).base = (-1 : Int)) || decide (i ≤ named (prgOf (aPrg p)).ops (p.ops.getD i.toNat opd0).base)) = false → Ob ((0 : Int) ≤ named (prgOf (aPrg p)).ops (p.ops.getD
  i.toNat opd0).base ∧ named (prgOf (aPrg p)).ops (p.ops.getD i.toNat opd0).base < (↑p.ops.length : Int)) ∧ (((bif decide ((p.ops.getD i.toNat opd0).kind = (1 : Int)) then
  !decide ((p.ops.getD (named (prgOf (aPrg p)).ops (p.ops.getD i.toNat opd0).base).toNat opd0).kind = (0 : Int)) else false) || bif decide ((p.ops.getD i.toNat opd0).kind = (2 :
  Int)) then !decide ((p.ops.getD (named (prgOf (aPrg p)).ops (p.ops.getD i.toNat opd0).base).toNat opd0).kind = (3 : Int)) else false) = true → (17 : Int) = opErr p i.toNat) ∧
  (((bif decide ((p.ops.getD i.toNat opd0).kind = (1 : Int)) then !decide ((p.ops.getD (named (prgOf (aPrg p)).ops (p.ops.getD i.toNat opd0).base).toNat opd0).kind = (0 : Int))
  else false) || bif decide ((p.ops.getD i.toNat opd0).kind = (2 : Int)) then !decide ((p.ops.getD (named (prgOf (aPrg p)).ops (p.ops.getD i.toNat opd0).base).toNat opd0).kind =
  (3 : Int)) else false) = false → (decide ((p.ops.getD i.toNat opd0).kind = (1 : Int)) = true → Ob (aTy (p.ops.getD (named (prgOf (aPrg p)).ops (p.ops.getD i.toNat
  opd0).base).toNat opd0).ty = aTy (p.ops.getD (named (prgOf (aPrg p)).ops (p.ops.getD i.toNat opd0).base).toNat opd0).ty ∧ typeErr (p.ops.getD (named (prgOf (aPrg p)).ops
  (p.ops.getD i.toNat opd0).base).toNat opd0).ty = (0 : Int)) ∧ Ob (aTy (p.ops.getD i.toNat opd0).ty = aTy (p.ops.getD i.toNat opd0).ty ∧ typeErr (p.ops.getD i.toNat opd0).ty =
  (0 : Int)) ∧ Ob (inI64 (size (p.ops.getD (named (prgOf (aPrg p)).ops (p.ops.getD i.toNat opd0).base).toNat opd0).ty - size (p.ops.getD i.toNat opd0).ty)) ∧ ((!(decide ((0 :
  Int) ≤ (p.ops.getD i.toNat opd0).off) && decide ((p.ops.getD i.toNat opd0).off ≤ size (p.ops.getD (named (prgOf (aPrg p)).ops (p.ops.getD i.toNat opd0).base).toNat opd0).ty -
  size (p.ops.getD i.toNat opd0).ty))) = true → (3 : Int) = opErr p i.toNat) ∧ ((!(decide ((0 : Int) ≤ (p.ops.getD i.toNat opd0).off) && decide ((p.ops.getD i.toNat opd0).off ≤
  size (p.ops.getD (named (prgOf (aPrg p)).ops (p.ops.getD i.toNat opd0).base).toNat opd0).ty - size (p.ops.getD i.toNat opd0).ty))) = false → (0 : Int) = opErr p i.toNat)) ∧
  (decide ((p.ops.getD i.toNat opd0).kind = (1 : Int)) = false → ((!(decide ((0 : Int) ≤ (p.ops.getD i.toNat opd0).off) && decide ((p.ops.getD i.toNat opd0).off ≤ (256 : Int))))
  = true → (3 : Int) = opErr p i.toNat) ∧ ((!(decide ((0 : Int) ≤ (p.ops.getD i.toNat opd0).off) && decide ((p.ops.getD i.toNat opd0).off ≤ (256 : Int)))) = false → (0 : Int) =
  opErr p i.toNat))))) ∧ (decide ((p.ops.getD i.toNat opd0).kind = (1 : Int)) = false → (decide ((p.ops.getD i.toNat opd0).kind = (2 : Int)) = true → ((decide (named (prgOf (aPrg
  p)).ops (p.ops.getD i.toNat opd0).base = (-1 : Int)) || decide (i ≤ named (prgOf (aPrg p)).ops (p.ops.getD i.toNat opd0).base)) = true → (11 : Int) = opErr p i.toNat) ∧
  ((decide (named (prgOf (aPrg p)).ops (p.ops.getD i.toNat opd0).base = (-1 : Int)) || decide (i ≤ named (prgOf (aPrg p)).ops (p.ops.getD i.toNat opd0).base)) = false → Ob ((0 :
  Int) ≤ named (prgOf (aPrg p)).ops (p.ops.getD i.toNat opd0).base ∧ named (prgOf (aPrg p)).ops (p.ops.getD i.toNat opd0).base < (↑p.ops.length : Int)) ∧ (((bif decide
  ((p.ops.getD i.toNat opd0).kind = (1 : Int)) then !decide ((p.ops.getD (named (prgOf (aPrg p)).ops (p.ops.getD i.toNat opd0).base).toNat opd0).kind = (0 : Int)) else false) ||
  bif decide ((p.ops.getD i.toNat opd0).kind = (2 : Int)) then !decide ((p.ops.getD (named (prgOf (aPrg p)).ops (p.ops.getD i.toNat opd0).base).toNat opd0).kind = (3 : Int)) else
  false) = true → (17 : Int) = opErr p i.toNat) ∧ (((bif decide ((p.ops.getD i.toNat opd0).kind = (1 : Int)) then !decide ((p.ops.getD (named (prgOf (aPrg p)).ops (p.ops.getD
  i.toNat opd0).base).toNat opd0).kind = (0 : Int)) else false) || bif decide ((p.ops.getD i.toNat opd0).kind = (2 : Int)) then !decide ((p.ops.getD (named (prgOf (aPrg p)).ops
  (p.ops.getD i.toNat opd0).base).toNat opd0).kind = (3 : Int)) else false) = false → (decide ((p.ops.getD i.toNat opd0).kind = (1 : Int)) = true → Ob (aTy (p.ops.getD (named
  (prgOf (aPrg p)).ops (p.ops.getD i.toNat opd0).base).toNat opd0).ty = aTy (p.ops.getD (named (prgOf (aPrg p)).ops (p.ops.getD i.toNat opd0).base).toNat opd0).ty ∧ typeErr
  (p.ops.getD (named (prgOf (aPrg p)).ops (p.ops.getD i.toNat opd0).base).toNat opd0).ty = (0 : Int)) ∧ Ob (aTy (p.ops.getD i.toNat opd0).ty = aTy (p.ops.getD i.toNat opd0).ty ∧
  typeErr (p.ops.getD i.toNat opd0).ty = (0 : Int)) ∧ Ob (inI64 (size (p.ops.getD (named (prgOf (aPrg p)).ops (p.ops.getD i.toNat opd0).base).toNat opd0).ty - size (p.ops.getD
  i.toNat opd0).ty)) ∧ ((!(decide ((0 : Int) ≤ (p.ops.getD i.toNat opd0).off) && decide ((p.ops.getD i.toNat opd0).off ≤ size (p.ops.getD (named (prgOf (aPrg p)).ops (p.ops.getD
  i.toNat opd0).base).toNat opd0).ty - size (p.ops.getD i.toNat opd0).ty))) = true → (3 : Int) = opErr p i.toNat) ∧ ((!(decide ((0 : Int) ≤ (p.ops.getD i.toNat opd0).off) &&
  decide ((p.ops.getD i.toNat opd0).off ≤ size (p.ops.getD (named (prgOf (aPrg p)).ops (p.ops.getD i.toNat opd0).base).toNat opd0).ty - size (p.ops.getD i.toNat opd0).ty))) =
  false → (0 : Int) = opErr p i.toNat)) ∧ (decide ((p.ops.getD i.toNat opd0).kind = (1 : Int)) = false → ((!(decide ((0 : Int) ≤ (p.ops.getD i.toNat opd0).off) && decide
  ((p.ops.getD i.toNat opd0).off ≤ (256 : Int)))) = true → (3 : Int) = opErr p i.toNat) ∧ ((!(decide ((0 : Int) ≤ (p.ops.getD i.toNat opd0).off) && decide ((p.ops.getD i.toNat
  opd0).off ≤ (256 : Int)))) = false → (0 : Int) = opErr p i.toNat))))) ∧ (decide ((p.ops.getD i.toNat opd0).kind = (2 : Int)) = false → (decide ((p.ops.getD i.toNat opd0).kind =
  (5 : Int)) = true → Ob (inI64 ((↑p.ins.length : Int) - (1 : Int))) ∧ ((!(decide ((0 : Int) ≤ (p.ops.getD i.toNat opd0).tgt) && decide ((p.ops.getD i.toNat opd0).tgt ≤
  (↑p.ins.length : Int) - (1 : Int)))) = true → (3 : Int) = opErr p i.toNat) ∧ ((!(decide ((0 : Int) ≤ (p.ops.getD i.toNat opd0).tgt) && decide ((p.ops.getD i.toNat opd0).tgt ≤
  (↑p.ins.length : Int) - (1 : Int)))) = false → (0 : Int) = opErr p i.toNat)) ∧ (decide ((p.ops.getD i.toNat opd0).kind = (5 : Int)) = false → (0 : Int) = opErr p
  i.toNat)))))))) ∧ (isData (p.ops.getD i.toNat opd0).kind = false → Ob (∃ (p_1 : Prg), eqv (aPrg p_1) (aPrg p)) ∧ (decide ((p.ops.getD i.toNat opd0).kind = (0 : Int)) = true →
  Ob (aTy (p.ops.getD i.toNat opd0).ty = aTy (p.ops.getD i.toNat opd0).ty ∧ aVal (p.ops.getD i.toNat opd0).n (p.ops.getD i.toNat opd0).v = aVal (p.ops.getD i.toNat opd0).n
  (p.ops.getD i.toNat opd0).v) ∧ valueErr (p.ops.getD i.toNat opd0).ty (p.ops.getD i.toNat opd0).n (p.ops.getD i.toNat opd0).v = opErr p i.toNat) ∧ (decide ((p.ops.getD i.toNat
  opd0).kind = (0 : Int)) = false → (decide ((p.ops.getD i.toNat opd0).kind = (4 : Int)) = true → Ob (aTy (p.ops.getD i.toNat opd0).ty = aTy (p.ops.getD i.toNat opd0).ty ∧ aVal
  (p.ops.getD i.toNat opd0).n (p.ops.getD i.toNat opd0).v = aVal (p.ops.getD i.toNat opd0).n (p.ops.getD i.toNat opd0).v) ∧ valueErr (p.ops.getD i.toNat opd0).ty (p.ops.getD
  i.toNat opd0).n (p.ops.getD i.toNat opd0).v = opErr p i.toNat) ∧ (decide ((p.ops.getD i.toNat opd0).kind = (4 : Int)) = false → (decide ((p.ops.getD i.toNat opd0).kind = (1 :
  Int)) = true → ((decide (named (prgOf (aPrg p)).ops (p.ops.getD i.toNat opd0).base = (-1 : Int)) || decide (i ≤ named (prgOf (aPrg p)).ops (p.ops.getD i.toNat opd0).base)) =
  true → (11 : Int) = opErr p i.toNat) ∧ ((decide (named (prgOf (aPrg p)).ops (p.ops.getD i.toNat opd0).base = (-1 : Int)) || decide (i ≤ named (prgOf (aPrg p)).ops (p.ops.getD
  i.toNat opd0).base)) = false → Ob ((0 : Int) ≤ named (prgOf (aPrg p)).ops (p.ops.getD i.toNat opd0).base ∧ named (prgOf (aPrg p)).ops (p.ops.getD i.toNat opd0).base <
  (↑p.ops.length : Int)) ∧ (((bif decide ((p.ops.getD i.toNat opd0).kind = (1 : Int)) then !decide ((p.ops.getD (named (prgOf (aPrg p)).ops (p.ops.getD i.toNat opd0).base).toNat
  opd0).kind = (0 : Int)) else false) || bif decide ((p.ops.getD i.toNat opd0).kind = (2 : Int)) then !decide ((p.ops.getD (named (prgOf (aPrg p)).ops (p.ops.getD i.toNat
  opd0).base).toNat opd0).kind = (3 : Int)) else false) = true → (17 : Int) = opErr p i.toNat) ∧ (((bif decide ((p.ops.getD i.toNat opd0).kind = (1 : Int)) then !decide
  ((p.ops.getD (named (prgOf (aPrg p)).ops (p.ops.getD i.toNat opd0).base).toNat opd0).kind = (0 : Int)) else false) || bif decide ((p.ops.getD i.toNat opd0).kind = (2 : Int))
  then !decide ((p.ops.getD (named (prgOf (aPrg p)).ops (p.ops.getD i.toNat opd0).base).toNat opd0).kind = (3 : Int)) else false) = false → (decide ((p.ops.getD i.toNat
  opd0).kind = (1 : Int)) = true → Ob (aTy (p.ops.getD (named (prgOf (aPrg p)).ops (p.ops.getD i.toNat opd0).base).toNat opd0).ty = aTy (p.ops.getD (named (prgOf (aPrg p)).ops
  (p.ops.getD i.toNat opd0).base).toNat opd0).ty ∧ typeErr (p.ops.getD (named (prgOf (aPrg p)).ops (p.ops.getD i.toNat opd0).base).toNat opd0).ty = (0 : Int)) ∧ Ob (aTy
  (p.ops.getD i.toNat opd0).ty = aTy (p.ops.getD i.toNat opd0).ty ∧ typeErr (p.ops.getD i.toNat opd0).ty = (0 : Int)) ∧ Ob (inI64 (size (p.ops.getD (named (prgOf (aPrg p)).ops
  (p.ops.getD i.toNat opd0).base).toNat opd0).ty - size (p.ops.getD i.toNat opd0).ty)) ∧ ((!(decide ((0 : Int) ≤ (p.ops.getD i.toNat opd0).off) && decide ((p.ops.getD i.toNat
  opd0).off ≤ size (p.ops.getD (named (prgOf (aPrg p)).ops (p.ops.getD i.toNat opd0).base).toNat opd0).ty - size (p.ops.getD i.toNat opd0).ty))) = true → (3 : Int) = opErr p
  i.toNat) ∧ ((!(decide ((0 : Int) ≤ (p.ops.getD i.toNat opd0).off) && decide ((p.ops.getD i.toNat opd0).off ≤ size (p.ops.getD (named (prgOf (aPrg p)).ops (p.ops.getD i.toNat
  opd0).base).toNat opd0).ty - size (p.ops.getD i.toNat opd0).ty))) = false → (0 : Int) = opErr p i.toNat)) ∧ (decide ((p.ops.getD i.toNat opd0).kind = (1 : Int)) = false →
  ((!(decide ((0 : Int) ≤ (p.ops.getD i.toNat opd0).off) && decide ((p.ops.getD i.toNat opd0).off ≤ (256 : Int)))) = true → (3 : Int) = opErr p i.toNat) ∧ ((!(decide ((0 : Int) ≤
  (p.ops.getD i.toNat opd0).off) && decide ((p.ops.getD i.toNat opd0).off ≤ (256 : Int)))) = false → (0 : Int) = opErr p i.toNat))))) ∧ (decide ((p.ops.getD i.toNat opd0).kind =
  (1 : Int)) = false → (decide ((p.ops.getD i.toNat opd0).kind = (2 : Int)) = true → ((decide (named (prgOf (aPrg p)).ops (p.ops.getD i.toNat opd0).base = (-1 : Int)) || decide
  (i ≤ named (prgOf (aPrg p)).ops (p.ops.getD i.toNat opd0).base)) = true → (11 : Int) = opErr p i.toNat) ∧ ((decide (named (prgOf (aPrg p)).ops (p.ops.getD i.toNat opd0).base =
  (-1 : Int)) || decide (i ≤ named (prgOf (aPrg p)).ops (p.ops.getD i.toNat opd0).base)) = false → Ob ((0 : Int) ≤ named (prgOf (aPrg p)).ops (p.ops.getD i.toNat opd0).base ∧
  named (prgOf (aPrg p)).ops (p.ops.getD i.toNat opd0).base < (↑p.ops.length : Int)) ∧ (((bif decide ((p.ops.getD i.toNat opd0).kind = (1 : Int)) then !decide ((p.ops.getD (named
  (prgOf (aPrg p)).ops (p.ops.getD i.toNat opd0).base).toNat opd0).kind = (0 : Int)) else false) || bif decide ((p.ops.getD i.toNat opd0).kind = (2 : Int)) then !decide
  ((p.ops.getD (named (prgOf (aPrg p)).ops (p.ops.getD i.toNat opd0).base).toNat opd0).kind = (3 : Int)) else false) = true → (17 : Int) = opErr p i.toNat) ∧ (((bif decide
  ((p.ops.getD i.toNat opd0).kind = (1 : Int)) then !decide ((p.ops.getD (named (prgOf (aPrg p)).ops (p.ops.getD i.toNat opd0).base).toNat opd0).kind = (0 : Int)) else false) ||
  bif decide ((p.ops.getD i.toNat opd0).kind = (2 : Int)) then !decide ((p.ops.getD (named (prgOf (aPrg p)).ops (p.ops.getD i.toNat opd0).base).toNat opd0).kind = (3 : Int)) else
  false) = false → (decide ((p.ops.getD i.toNat opd0).kind = (1 : Int)) = true → Ob (aTy (p.ops.getD (named (prgOf (aPrg p)).ops (p.ops.getD i.toNat opd0).base).toNat opd0).ty =
  aTy (p.ops.getD (named (prgOf (aPrg p)).ops (p.ops.getD i.toNat opd0).base).toNat opd0).ty ∧ typeErr (p.ops.getD (named (prgOf (aPrg p)).ops (p.ops.getD i.toNat
  opd0).base).toNat opd0).ty = (0 : Int)) ∧ Ob (aTy (p.ops.getD i.toNat opd0).ty = aTy (p.ops.getD i.toNat opd0).ty ∧ typeErr (p.ops.getD i.toNat opd0).ty = (0 : Int)) ∧ Ob
  (inI64 (size (p.ops.getD (named (prgOf (aPrg p)).ops (p.ops.getD i.toNat opd0).base).toNat opd0).ty - size (p.ops.getD i.toNat opd0).ty)) ∧ ((!(decide ((0 : Int) ≤ (p.ops.getD
  i.toNat opd0).off) && decide ((p.ops.getD i.toNat opd0).off ≤ size (p.ops.getD (named (prgOf (aPrg p)).ops (p.ops.getD i.toNat opd0).base).toNat opd0).ty - size (p.ops.getD
  i.toNat opd0).ty))) = true → (3 : Int) = opErr p i.toNat) ∧ ((!(decide ((0 : Int) ≤ (p.ops.getD i.toNat opd0).off) && decide ((p.ops.getD i.toNat opd0).off ≤ size (p.ops.getD
  (named (prgOf (aPrg p)).ops (p.ops.getD i.toNat opd0).base).toNat opd0).ty - size (p.ops.getD i.toNat opd0).ty))) = false → (0 : Int) = opErr p i.toNat)) ∧ (decide ((p.ops.getD
  i.toNat opd0).kind = (1 : Int)) = false → ((!(decide ((0 : Int) ≤ (p.ops.getD i.toNat opd0).off) && decide ((p.ops.getD i.toNat opd0).off ≤ (256 : Int)))) = true → (3 : Int) =
  opErr p i.toNat) ∧ ((!(decide ((0 : Int) ≤ (p.ops.getD i.toNat opd0).off) && decide ((p.ops.getD i.toNat opd0).off ≤ (256 : Int)))) = false → (0 : Int) = opErr p i.toNat))))) ∧
  (decide ((p.ops.getD i.toNat opd0).kind = (2 : Int)) = false → (decide ((p.ops.getD i.toNat opd0).kind = (5 : Int)) = true → Ob (inI64 ((↑p.ins.length : Int) - (1 : Int))) ∧
  ((!(decide ((0 : Int) ≤ (p.ops.getD i.toNat opd0).tgt) && decide ((p.ops.getD i.toNat opd0).tgt ≤ (↑p.ins.length : Int) - (1 : Int)))) = true → (3 : Int) = opErr p i.toNat) ∧
  ((!(decide ((0 : Int) ≤ (p.ops.getD i.toNat opd0).tgt) && decide ((p.ops.getD i.toNat opd0).tgt ≤ (↑p.ins.length : Int) - (1 : Int)))) = false → (0 : Int) = opErr p i.toNat)) ∧
  (decide ((p.ops.getD i.toNat opd0).kind = (5 : Int)) = false → (0 : Int) = opErr p i.toNat))))))))))) (by kernel_rfl) ?_⟩
    have hlen : p.ins.length ≤ maxLen := hb.2.1
    clear hl hp hr hb
    simp only [prg_c, exPrg, Ob_iff, inI64, decide_eq_true_eq, decide_eq_false_iff_not, Bool.and_eq_true, Bool.not_eq_true', Bool.not_eq_false', Bool.and_eq_false_iff, Bool.or_eq_true, Bool.or_eq_false_iff, bor_c, band_c, true_and, implies_true, and_true]
    have hN := named_lt p.ops (p.ops.getD i.toNat opd0).base
    have hN2 := named_ge p.ops (p.ops.getD i.toNat opd0).base
    have hu : 0 ≤ named p.ops (p.ops.getD i.toNat opd0).base → named p.ops (p.ops.getD i.toNat opd0).base < i → (p.ops.getD (named p.ops (p.ops.getD i.toNat opd0).base).toNat opd0).kind = 0 → typeErr (p.ops.getD (named p.ops (p.ops.getD i.toNat opd0).base).toNat opd0).ty = 0 := fun a b c =>
      ((opRight (hR _ (by omega))).ty (by unfold isData; simp only [decide_eq_true_eq]; omega)).1
    have hii : ((i.toNat : Nat) : Int) = i := Int.toNat_of_nonneg h0
    simp only [opErr, chk, hii]
    unfold maxLen at hlen
    generalize p.ops.getD i.toNat opd0 = o at *
    generalize p.ops.getD (named p.ops o.base).toNat opd0 = u at *
    generalize named p.ops o.base = N at *
    generalize named p.ops o.name = M at *
    have su : typeErr u.ty = 0 → _ := size_facts
    have so : typeErr o.ty = 0 → _ := size_facts
    clear hR
    simp only [isData, decide_eq_true_eq, decide_eq_false_iff_not, Bool.and_eq_true, Bool.not_eq_true', ne_eq]
    generalize isName o.name = b1 at *
    generalize hasExtra o = b2 at *
    cases b1 <;> cases b2 <;> simp only [Bool.false_eq_true, Bool.true_eq_false, if_true, if_false, false_implies, true_implies, implies_true, and_true, true_and]
    all_goals repeat' first | refine And.intro ?_ ?_ | intro h
    all_goals first | omega | ((repeat' split) <;> omega)
  · exact (Tr.run_fail hr).elim
end Go.Proofs.YtgcnbicoajjlaaaGreatDoor
end
section
set_option linter.unusedVariables false
set_option linter.unusedSimpArgs false
set_option maxRecDepth 100000
namespace Go.Proofs.YtgcnbicoajjlaaaGreatDoor
open Go Go.Eng Go.Tx
variable {m : Int}
noncomputable def CmonErr : Con
  | [v, w] => .need ((∃ p, eqv (aPrg p) v) ∧ w = aMon (monOf w)) (.ret (.int .i64 (bif monOk (prgOf v) (monOf w) then 0 else 3)))
  | _ => .fail
theorem ok66 : Ok m 66 CmonErr := fn_ok2 (cons_cons ok91 (cons_cons ok62 cons_nil)) Tryz.func66 (by kernel_rfl) fun xs r hr hp => by
  unfold CmonErr at hr
  split at hr
  · rename_i v w
    obtain ⟨⟨⟨p, hl⟩, hw⟩, hr⟩ := Tr.run_need hr
    obtain rfl := Tr.run_ret hr
    have hb := (prg_small hl hp.1).2.1
    rw [prg_eqv hl]
    generalize monOf w = x at *
    subst hw
    clear hr
    refine ⟨[aPrg p, aMon x], [], prg_args hl _, of_nice (Ob ((bif bif bif decide ((0 : Int) ≤ x.fr) then decide (x.fr < x.to) else false then decide (x.to ≤ (↑p.ins.length : Int)) else false then decide ((0 : Int) ≤ x.ex) && decide
  (x.ex ≤ (999 : Int)) else false) = true → inI64 ((↑p.ins.length : Int) - (1 : Int))) ∧ (bif !bif bif bif bif decide ((0 : Int) ≤ x.fr) then decide (x.fr < x.to) else false then
  decide (x.to ≤ (↑p.ins.length : Int)) else false then decide ((0 : Int) ≤ x.ex) && decide (x.ex ≤ (999 : Int)) else false then decide ((0 : Int) ≤ x.hd) && decide (x.hd ≤
  (↑p.ins.length : Int) - (1 : Int)) else false then (3 : Int) else (0 : Int)) = bif monOk p x then (0 : Int) else (3 : Int)) (by kernel_rfl) ?_⟩
    unfold maxLen at hb
    simp only [band_c]
    simp only [monOk, Ob_iff, inI64, cond_eq_ite, decide_eq_true_eq, Bool.and_eq_true, Bool.not_eq_true', Bool.and_eq_false_iff, decide_eq_false_iff_not]
    repeat' first | refine And.intro ?_ ?_ | intro h
    all_goals first | omega | ((repeat' split) <;> omega)
  · exact (Tr.run_fail hr).elim
noncomputable def fitsP (o b : Opd) (c : Int) : Bool :=
  if c = 5 then decide (o.kind = 3) else if c = 6 then decide (o.kind = 5)
  else isData o.kind && !((decide (c = 0) || decide (c = 2)) && decide (o.kind = 4)) && !((decide (c = 2) || decide (c = 3)) && !(!decide (o.ty.k = 0))) && !(decide (c = 4) && ((!decide (o.ty.k = 0)) != (!decide (b.ty.k = 0))))
noncomputable def Cfits : Con
  | [v, w, .int .i64 c] => .need (v = aOpd (opdOf v) ∧ w = aOpd (opdOf w)) (.ret (.prop (fitsP (opdOf v) (opdOf w) c)))
  | _ => .fail
theorem ok99 : Ok m 99 Cfits := fn_ok2 (cons_cons ok93 (cons_cons ok129 cons_nil)) Tryz.func99 (by kernel_rfl) fun xs r hr hp => by
  unfold Cfits at hr
  split at hr
  · rename_i v w c
    obtain ⟨⟨hv, hw⟩, hr⟩ := Tr.run_need hr
    obtain rfl := Tr.run_ret hr
    generalize opdOf v = o at *
    generalize opdOf w = b at *
    subst hv
    subst hw
    clear hr hp
    refine ⟨_, [], args_self _, of_nice ((decide (c = (5 : Int)) = true → decide (o.kind = (3 : Int)) = fitsP o b c) ∧ (decide (c = (5 : Int)) = false → (decide (c = (6 : Int)) = true → decide (o.kind = (5 : Int)) =
  fitsP o b c) ∧ (decide (c = (6 : Int)) = false → Ob (aOpd o = aOpd o) ∧ Ob ((bif isData o.kind then !bif decide (c = (0 : Int)) || decide (c = (2 : Int)) then decide (o.kind =
  (4 : Int)) else false else false) = true ∧ (decide (c = (2 : Int)) || decide (c = (3 : Int))) = true → aOpd o = aOpd o) ∧ Ob ((bif bif isData o.kind then !bif decide (c = (0 :
  Int)) || decide (c = (2 : Int)) then decide (o.kind = (4 : Int)) else false else false then !bif decide (c = (2 : Int)) || decide (c = (3 : Int)) then !!decide (o.ty.k = (0 :
  Int)) else false else false) = true ∧ decide (c = (4 : Int)) = true → aOpd o = aOpd o) ∧ Ob ((bif bif isData o.kind then !bif decide (c = (0 : Int)) || decide (c = (2 : Int))
  then decide (o.kind = (4 : Int)) else false else false then !bif decide (c = (2 : Int)) || decide (c = (3 : Int)) then !!decide (o.ty.k = (0 : Int)) else false else false) =
  true ∧ decide (c = (4 : Int)) = true → aOpd b = aOpd b) ∧ (bif bif bif isData o.kind then !bif decide (c = (0 : Int)) || decide (c = (2 : Int)) then decide (o.kind = (4 : Int))
  else false else false then !bif decide (c = (2 : Int)) || decide (c = (3 : Int)) then !!decide (o.ty.k = (0 : Int)) else false else false then !bif decide (c = (4 : Int)) then
  (!decide (o.ty.k = (0 : Int))) != !decide (b.ty.k = (0 : Int)) else false else false) = fitsP o b c))) (by kernel_rfl) ?_⟩
    simp only [band_c, decide_eq_true_eq, decide_eq_false_iff_not]
    refine And.intro (fun h => ?_) (fun h => ?_)
    · simp [fitsP, h]
    · refine And.intro (fun h6 => ?_) (fun h6 => ?_)
      · simp [fitsP, h6]
      · simp only [fitsP, if_neg h, if_neg h6, Ob_iff]
        simp
  · exact (Tr.run_fail hr).elim
theorem take3 : ∀ {l : List Int} {cs : List AV}, cs = l.map (fun n => AV.int .i64 n) → ∀ i, i < l.length → List.take 1 (List.drop (i * 1) cs) = [AV.int .i64 (l.getD i 0)]
  | [], _, _, i, hi => by simp at hi
  | n :: l, _, rfl, 0, _ => rfl
  | n :: l, _, rfl, i + 1, hi => by
    have := take3 (l := l) rfl i (by simpa using hi)
    simpa using this
noncomputable def refRoles (op : Int) : List Int :=
  [[0, 4], [1, 3], [1, 3, 3], [1, 3, 3], [1, 3, 3], [1, 3, 3], [1, 3, 3], [2, 4, 6], [2, 4, 6], [6], [5, 0], [5, 5], [5, 3], [6], [], [3], [1], [2], []].getD op.toNat []
noncomputable def Croles : Con
  | [.int .i64 op] => .need (0 ≤ op ∧ op ≤ 18) (.ret (slInts (refRoles op)))
  | _ => .fail
theorem ok58 : Ok m 58 Croles := fn_ok2 cons_nil Tryz.func58 (by kernel_rfl) fun xs r hr hp => by
  unfold Croles at hr
  split at hr
  · rename_i op
    obtain ⟨⟨h0, h18⟩, hr⟩ := Tr.run_need hr
    obtain rfl := Tr.run_ret hr
    refine ⟨_, [], args_self _, of_nice ((decide (op = (0 : Int)) = true → (2 : Nat) = (refRoles op).length ∧ ∀ (i : Nat), i < (refRoles op).length → List.take (1 : Nat) (List.drop (i * (1 : Nat)) [AV.int IntKind.i64
  (0 : Int), AV.int IntKind.i64 (4 : Int)]) = [AV.int IntKind.i64 ((refRoles op).getD i (0 : Int))]) ∧ (decide (op = (0 : Int)) = false → (decide (op = (1 : Int)) = true → (2 :
  Nat) = (refRoles op).length ∧ ∀ (i : Nat), i < (refRoles op).length → List.take (1 : Nat) (List.drop (i * (1 : Nat)) [AV.int IntKind.i64 (1 : Int), AV.int IntKind.i64 (3 :
  Int)]) = [AV.int IntKind.i64 ((refRoles op).getD i (0 : Int))]) ∧ (decide (op = (1 : Int)) = false → (decide (op = (2 : Int)) = true → (3 : Nat) = (refRoles op).length ∧ ∀ (i :
  Nat), i < (refRoles op).length → List.take (1 : Nat) (List.drop (i * (1 : Nat)) [AV.int IntKind.i64 (1 : Int), AV.int IntKind.i64 (3 : Int), AV.int IntKind.i64 (3 : Int)]) =
  [AV.int IntKind.i64 ((refRoles op).getD i (0 : Int))]) ∧ (decide (op = (2 : Int)) = false → (decide (op = (3 : Int)) = true → (3 : Nat) = (refRoles op).length ∧ ∀ (i : Nat), i
  < (refRoles op).length → List.take (1 : Nat) (List.drop (i * (1 : Nat)) [AV.int IntKind.i64 (1 : Int), AV.int IntKind.i64 (3 : Int), AV.int IntKind.i64 (3 : Int)]) = [AV.int
  IntKind.i64 ((refRoles op).getD i (0 : Int))]) ∧ (decide (op = (3 : Int)) = false → (decide (op = (4 : Int)) = true → (3 : Nat) = (refRoles op).length ∧ ∀ (i : Nat), i <
  (refRoles op).length → List.take (1 : Nat) (List.drop (i * (1 : Nat)) [AV.int IntKind.i64 (1 : Int), AV.int IntKind.i64 (3 : Int), AV.int IntKind.i64 (3 : Int)]) = [AV.int
  IntKind.i64 ((refRoles op).getD i (0 : Int))]) ∧ (decide (op = (4 : Int)) = false → (decide (op = (5 : Int)) = true → (3 : Nat) = (refRoles op).length ∧ ∀ (i : Nat), i <
  (refRoles op).length → List.take (1 : Nat) (List.drop (i * (1 : Nat)) [AV.int IntKind.i64 (1 : Int), AV.int IntKind.i64 (3 : Int), AV.int IntKind.i64 (3 : Int)]) = [AV.int
  IntKind.i64 ((refRoles op).getD i (0 : Int))]) ∧ (decide (op = (5 : Int)) = false → (decide (op = (6 : Int)) = true → (3 : Nat) = (refRoles op).length ∧ ∀ (i : Nat), i <
  (refRoles op).length → List.take (1 : Nat) (List.drop (i * (1 : Nat)) [AV.int IntKind.i64 (1 : Int), AV.int IntKind.i64 (3 : Int), AV.int IntKind.i64 (3 : Int)]) = [AV.int
  IntKind.i64 ((refRoles op).getD i (0 : Int))]) ∧ (decide (op = (6 : Int)) = false → (decide (op = (7 : Int)) = true → (3 : Nat) = (refRoles op).length ∧ ∀ (i : Nat), i <
  (refRoles op).length → List.take (1 : Nat) (List.drop (i * (1 : Nat)) [AV.int IntKind.i64 (2 : Int), AV.int IntKind.i64 (4 : Int), AV.int IntKind.i64 (6 : Int)]) = [AV.int
  IntKind.i64 ((refRoles op).getD i (0 : Int))]) ∧ (decide (op = (7 : Int)) = false → (decide (op = (8 : Int)) = true → (3 : Nat) = (refRoles op).length ∧ ∀ (i : Nat), i <
  (refRoles op).length → List.take (1 : Nat) (List.drop (i * (1 : Nat)) [AV.int IntKind.i64 (2 : Int), AV.int IntKind.i64 (4 : Int), AV.int IntKind.i64 (6 : Int)]) = [AV.int
  IntKind.i64 ((refRoles op).getD i (0 : Int))]) ∧ (decide (op = (8 : Int)) = false → (decide (op = (9 : Int)) = true → (1 : Nat) = (refRoles op).length ∧ ∀ (i : Nat), i <
  (refRoles op).length → List.take (1 : Nat) (List.drop (i * (1 : Nat)) [AV.int IntKind.i64 (6 : Int)]) = [AV.int IntKind.i64 ((refRoles op).getD i (0 : Int))]) ∧ (decide (op =
  (9 : Int)) = false → (decide (op = (13 : Int)) = true → (1 : Nat) = (refRoles op).length ∧ ∀ (i : Nat), i < (refRoles op).length → List.take (1 : Nat) (List.drop (i * (1 :
  Nat)) [AV.int IntKind.i64 (6 : Int)]) = [AV.int IntKind.i64 ((refRoles op).getD i (0 : Int))]) ∧ (decide (op = (13 : Int)) = false → (decide (op = (10 : Int)) = true → (2 :
  Nat) = (refRoles op).length ∧ ∀ (i : Nat), i < (refRoles op).length → List.take (1 : Nat) (List.drop (i * (1 : Nat)) [AV.int IntKind.i64 (5 : Int), AV.int IntKind.i64 (0 :
  Int)]) = [AV.int IntKind.i64 ((refRoles op).getD i (0 : Int))]) ∧ (decide (op = (10 : Int)) = false → (decide (op = (11 : Int)) = true → (2 : Nat) = (refRoles op).length ∧ ∀ (i
  : Nat), i < (refRoles op).length → List.take (1 : Nat) (List.drop (i * (1 : Nat)) [AV.int IntKind.i64 (5 : Int), AV.int IntKind.i64 (5 : Int)]) = [AV.int IntKind.i64 ((refRoles
  op).getD i (0 : Int))]) ∧ (decide (op = (11 : Int)) = false → (decide (op = (12 : Int)) = true → (2 : Nat) = (refRoles op).length ∧ ∀ (i : Nat), i < (refRoles op).length →
  List.take (1 : Nat) (List.drop (i * (1 : Nat)) [AV.int IntKind.i64 (5 : Int), AV.int IntKind.i64 (3 : Int)]) = [AV.int IntKind.i64 ((refRoles op).getD i (0 : Int))]) ∧ (decide
  (op = (12 : Int)) = false → (decide (op = (15 : Int)) = true → (1 : Nat) = (refRoles op).length ∧ ∀ (i : Nat), i < (refRoles op).length → List.take (1 : Nat) (List.drop (i * (1
  : Nat)) [AV.int IntKind.i64 (3 : Int)]) = [AV.int IntKind.i64 ((refRoles op).getD i (0 : Int))]) ∧ (decide (op = (15 : Int)) = false → (decide (op = (16 : Int)) = true → (1 :
  Nat) = (refRoles op).length ∧ ∀ (i : Nat), i < (refRoles op).length → List.take (1 : Nat) (List.drop (i * (1 : Nat)) [AV.int IntKind.i64 (1 : Int)]) = [AV.int IntKind.i64
  ((refRoles op).getD i (0 : Int))]) ∧ (decide (op = (16 : Int)) = false → (decide (op = (17 : Int)) = true → (1 : Nat) = (refRoles op).length ∧ ∀ (i : Nat), i < (refRoles
  op).length → List.take (1 : Nat) (List.drop (i * (1 : Nat)) [AV.int IntKind.i64 (2 : Int)]) = [AV.int IntKind.i64 ((refRoles op).getD i (0 : Int))]) ∧ (decide (op = (17 : Int))
  = false → (refRoles op).length = (0 : Nat))))))))))))))))))) (by kernel_rfl) ?_⟩
    simp only [decide_eq_true_eq, decide_eq_false_iff_not]
    repeat' first | refine And.intro ?_ (take3 ?_) | refine And.intro ?_ ?_ | intro h
    all_goals first | (subst h; rfl) | (have h2 : op = 14 ∨ op = 18 := by omega
                                        rcases h2 with rfl | rfl <;> rfl)
  · exact (Tr.run_fail hr).elim
end Go.Proofs.YtgcnbicoajjlaaaGreatDoor
end
section
set_option linter.unusedVariables false
set_option linter.unusedSimpArgs false
set_option maxRecDepth 100000
namespace Go.Proofs.YtgcnbicoajjlaaaGreatDoor
open Go Go.Eng Go.Tx
variable {m : Int}
noncomputable def insOf1 (v : AV) : Ins := dIns (cells v)
theorem ins1_eqv {x : Ins} {v : AV} (h : eqv (aIns x) v) : insOf1 v = x := by
  cases v with
  | agg l =>
    match l, h with
    | [a, b], ⟨h1, h2⟩ =>
      have e2 : eqv (slInts x.args) b := by cases b <;> first | exact h2 | exact h2.elim
      cases a with
      | int k n =>
        have h1 : (if IntKind.i64 = k then n = x.op else False) := h1
        split at h1
        · show (⟨n, ints b⟩ : Ins) = x
          rw [ints_eqv e2, h1]
        · exact h1.elim
      | _ => exact h1.elim
  | _ => exact h.elim
theorem ins1_small {x : Ins} {v : AV} (h : eqv (aIns x) v) (hb : bndA v) : x.args.length ≤ maxLen := by
  cases v with
  | agg l =>
    match l, h, hb with
    | [a, b], ⟨h1, h2⟩, ⟨b1, b2, _⟩ =>
      have e2 : eqv (slInts x.args) b := by cases b <;> first | exact h2 | exact h2.elim
      exact len_small1 e2 b2
  | _ => exact h.elim
def AllRight (p : Prg) : Prop := ∀ k, k < p.ops.length → opErr p k = 0
theorem insRight {p : Prg} {x : Ins} (h : insErr p x = 0) : (0 ≤ x.op ∧ x.op ≤ 18) ∧ x.args.length = (roles x.op).length ∧
    ∀ i, i < x.args.length → (0 ≤ x.args.getD i 0 ∧ x.args.getD i 0 ≤ (p.ops.length : Int) - 1) ∧ fits (argOpd p x i) (argBefore p x i) ((roles x.op).getD i 0) = true := by
  unfold insErr at h
  by_cases h1 : 0 ≤ x.op ∧ x.op ≤ 18
  · rw [if_neg (fun e => e h1)] at h
    by_cases h2 : x.args.length = (roles x.op).length
    · rw [if_neg (fun e => e h2)] at h
      refine ⟨h1, h2, fun i hi => ?_⟩
      have := firstErr_zero h i hi
      unfold argErr at this
      by_cases h3 : 0 ≤ x.args.getD i 0 ∧ x.args.getD i 0 ≤ (p.ops.length : Int) - 1
      · rw [if_neg (fun e => e h3)] at this
        by_cases h4 : fits (argOpd p x i) (argBefore p x i) ((roles x.op).getD i 0) = false
        · rw [if_pos h4] at this; cases this
        · exact ⟨h3, by simpa using h4⟩
      · rw [if_pos h3] at this; cases this
    · rw [if_pos h2] at h; cases h
  · rw [if_pos h1] at h; cases h
theorem roles_alike {op : Int} (h : 0 ≤ op ∧ op ≤ 18) {i : Nat} (hi : i < (roles op).length) (h4 : (roles op).getD i 0 = 4) : i = 1 ∧ ((roles op).getD 0 0 = 0 ∨ (roles op).getD 0 0 = 1) := by
  have key : ∀ n : Nat, n < 19 → ∀ i, i < (roles (n : Int)).length → (roles (n : Int)).getD i 0 = 4 → i = 1 ∧ ((roles (n : Int)).getD 0 0 = 0 ∨ (roles (n : Int)).getD 0 0 = 1) := by decide
  have e : ((op.toNat : Nat) : Int) = op := Int.toNat_of_nonneg h.1
  have := key op.toNat (by omega)
  rw [e] at this
  exact this i hi h4
theorem fits_data {o b : Opd} {c : Int} (hc : c = 0 ∨ c = 1) (h : fits o b c = true) : isData o.kind = true := by
  unfold fits at h
  rw [if_neg (by omega), if_neg (by omega)] at h
  simp only [Bool.and_eq_true] at h
  exact h.1.1.1
theorem right_num {p : Prg} (hR : AllRight p) {k : Nat} (hk : k < p.ops.length) (hd : isData (p.ops.getD k opd0).kind = true) : isNum (p.ops.getD k opd0).ty = !decide ((p.ops.getD k opd0).ty.k = 0) := by
  obtain ⟨t1, t2⟩ := (opRight (hR k hk)).ty hd
  obtain ⟨f1, f2, _⟩ := type_facts t1
  generalize p.ops.getD k opd0 = o at *
  rw [Bool.eq_iff_iff]
  simp [isNum]
  omega
theorem fits_P {p : Prg} {x : Ins} (hR : AllRight p) (o1 : 0 ≤ x.op ∧ x.op ≤ 18) (o2 : x.args.length = (roles x.op).length)
    (o3 : ∀ i, i < x.args.length → (0 ≤ x.args.getD i 0 ∧ x.args.getD i 0 ≤ (p.ops.length : Int) - 1) ∧ fits (argOpd p x i) (argBefore p x i) ((roles x.op).getD i 0) = true) {i : Nat} (hi : i < x.args.length)
    (h : fits (argOpd p x i) (argBefore p x i) ((roles x.op).getD i 0) = true) : fitsP (argOpd p x i) (argBefore p x i) ((roles x.op).getD i 0) = true := by
  have hn : ∀ k, k < x.args.length → isData (argOpd p x k).kind = true → isNum (argOpd p x k).ty = !decide ((argOpd p x k).ty.k = 0) := fun k hk hd => right_num hR (by have := (o3 k hk).1; omega) hd
  unfold fits at h
  unfold fitsP
  by_cases h5 : (roles x.op).getD i 0 = 5
  · rw [if_pos h5] at h ⊢; exact h
  · rw [if_neg h5] at h ⊢
    by_cases h6 : (roles x.op).getD i 0 = 6
    · rw [if_pos h6] at h ⊢; exact h
    · rw [if_neg h6] at h ⊢
      have hd : isData (argOpd p x i).kind = true := by simp only [Bool.and_eq_true] at h; exact h.1.1.1
      rw [← hn i hi hd]
      by_cases h4 : (roles x.op).getD i 0 = 4
      · obtain ⟨rfl, h01⟩ := roles_alike o1 (o2 ▸ hi) h4
        have h0 := o3 0 (by omega)
        have hd0 : isData (argOpd p x 0).kind = true := fits_data h01 h0.2
        have e : argBefore p x 1 = argOpd p x 0 := rfl
        rw [e] at h ⊢
        rw [← hn 0 (by omega) hd0]
        exact h
      · have hf : decide ((roles x.op).getD i 0 = 4) = false := by simpa using h4
        rw [hf] at h ⊢
        simpa using h
noncomputable def CinsErr : Con
  | [v, w] => .need (∃ p x, eqv (aPrg p) v ∧ eqv (aIns x) w ∧ insErr p x = 0 ∧ AllRight p) (.ret (.int .i64 0))
  | _ => .fail
noncomputable def inv65 (p : Prg) (x : Ins) : Eng.Inv :=
  ⟨{ i : Nat // i ≤ x.args.length }, fun i => [(2, .ptr 2 0), (3, .ptr 3 0), (5, .ptr 5 0), (22, slInts x.args), (23, I x.args.length), (24, I i.1)],
    fun i => [(2, .box [slOpds p.ops, slIns p.ins, slMons p.mons] false), (3, .box (cIns x) false), (5, .box (cOpd (argBefore p x i.1)) false)], fun i => x.args.length - i.1⟩
theorem ok65 : Ok m 65 CinsErr := fn_ok2 (cons_cons ok91 (cons_cons ok99 cons_nil)) Tryz.func65 (by kernel_rfl) fun xs r hr hp => by
  unfold CinsErr at hr
  split at hr
  · rename_i v w
    obtain ⟨⟨p, x, hl, hx, he, hR⟩, hr⟩ := Tr.run_need hr
    obtain rfl := Tr.run_ret hr
    have hb := prg_small hl hp.1
    have hb2 := ins1_small hx hp.2.1
    refine ⟨[aPrg p, aIns x], [(0, inv65 p x)], ⟨.inr ⟨rfl, rfl, hl⟩, .inr ⟨rfl, rfl, hx⟩, trivial⟩, of_nice (((!(decide ((0 : Int) ≤ x.op) && decide (x.op ≤ (18 : Int)))) = true → (4 : Int) = (0 : Int)) ∧ ((!(decide ((0 : Int) ≤ x.op) && decide (x.op ≤ (18 : Int)))) = false → Ob ((0 :
  Int) ≤ x.op ∧ x.op < (↑(19 : Nat) : Int)) ∧ ((!decide ((↑x.args.length : Int) = (↑(roles (↑x.op.toNat : Int)).length : Int))) = true → (37 : Int) = (0 : Int)) ∧ ((!decide
  ((↑x.args.length : Int) = (↑(roles (↑x.op.toNat : Int)).length : Int))) = false → (∃ (j : { i : Nat // i ≤ x.args.length }), True ∧ True ∧ True ∧ (x.args.length = x.args.length
  ∧ ∀ (i : Nat), i < x.args.length → [AV.int IntKind.i64 (x.args.getD i (0 : Int))] = [AV.int IntKind.i64 (x.args.getD i (0 : Int))]) ∧ (↑x.args.length : Int) = (↑x.args.length :
  Int) ∧ (0 : Int) = (↑j.val : Int) ∧ ((p.ops.length = p.ops.length ∧ ∀ (i : Nat), i < p.ops.length → cOpd (p.ops.getD i opd0) = cOpd (p.ops.getD i opd0)) ∧ (p.ins.length =
  p.ins.length ∧ ∀ (i : Nat), i < p.ins.length → cIns (p.ins.getD i ins0) = cIns (p.ins.getD i ins0)) ∧ p.mons.length = p.mons.length ∧ ∀ (i : Nat), i < p.mons.length → cMon
  (p.mons.getD i mon0) = cMon (p.mons.getD i mon0)) ∧ (x.op = x.op ∧ x.args.length = x.args.length ∧ ∀ (i : Nat), i < x.args.length → [AV.int IntKind.i64 (x.args.getD i (0 :
  Int))] = [AV.int IntKind.i64 (x.args.getD i (0 : Int))]) ∧ ([] = (argBefore p x j.val).name ∧ (0 : Int) = (argBefore p x j.val).kind ∧ (0 : Int) = (argBefore p x j.val).ty.k ∧
  (0 : Int) = (argBefore p x j.val).ty.l ∧ (0 : Int) = (argBefore p x j.val).ty.s ∧ (0 : Int) = (argBefore p x j.val).n ∧ [] = (argBefore p x j.val).v ∧ [] = (argBefore p x
  j.val).base ∧ (0 : Int) = (argBefore p x j.val).off ∧ (0 : Int) = (argBefore p x j.val).tgt) ∧ True) ∧ ∀ (i : { i : Nat // i ≤ x.args.length }), (decide ((↑i.val : Int) <
  (↑x.args.length : Int)) = true → Ob ((0 : Int) ≤ (↑i.val : Int) ∧ (↑i.val : Int) < (↑x.args.length : Int)) ∧ Ob (inI64 ((↑p.ops.length : Int) - (1 : Int))) ∧ ((!(decide ((0 :
  Int) ≤ x.args.getD i.val (0 : Int)) && decide (x.args.getD i.val (0 : Int) ≤ (↑p.ops.length : Int) - (1 : Int)))) = true → (3 : Int) = (0 : Int)) ∧ ((!(decide ((0 : Int) ≤
  x.args.getD i.val (0 : Int)) && decide (x.args.getD i.val (0 : Int) ≤ (↑p.ops.length : Int) - (1 : Int)))) = false → Ob ((0 : Int) ≤ x.args.getD i.val (0 : Int) ∧ x.args.getD
  i.val (0 : Int) < (↑p.ops.length : Int)) ∧ Ob ((0 : Int) ≤ x.op ∧ x.op < (↑(19 : Nat) : Int)) ∧ Ob ((0 : Int) ≤ (↑i.val : Int) ∧ (↑i.val : Int) < (↑(roles (↑x.op.toNat :
  Int)).length : Int)) ∧ Ob (aOpd (p.ops.getD (x.args.getD i.val (0 : Int)).toNat opd0) = aOpd (p.ops.getD (x.args.getD i.val (0 : Int)).toNat opd0) ∧ aOpd (argBefore p x i.val)
  = aOpd (argBefore p x i.val)) ∧ ((!fitsP (p.ops.getD (x.args.getD i.val (0 : Int)).toNat opd0) (argBefore p x i.val) ((roles (↑x.op.toNat : Int)).getD i.val (0 : Int))) = true
  → (17 : Int) = (0 : Int)) ∧ ((!fitsP (p.ops.getD (x.args.getD i.val (0 : Int)).toNat opd0) (argBefore p x i.val) ((roles (↑x.op.toNat : Int)).getD i.val (0 : Int))) = false →
  Ob ((0 : Int) ≤ x.args.getD i.val (0 : Int) ∧ x.args.getD i.val (0 : Int) < (↑p.ops.length : Int)) ∧ Ob (inI64 ((↑i.val : Int) + (1 : Int))) ∧ ∃ (j : { i : Nat // i ≤
  x.args.length }), (x.args.length - j.val).succ.le (x.args.length - i.val) ∧ True ∧ True ∧ True ∧ (x.args.length = x.args.length ∧ ∀ (i : Nat), i < x.args.length → [AV.int
  IntKind.i64 (x.args.getD i (0 : Int))] = [AV.int IntKind.i64 (x.args.getD i (0 : Int))]) ∧ (↑x.args.length : Int) = (↑x.args.length : Int) ∧ (↑i.val : Int) + (1 : Int) =
  (↑j.val : Int) ∧ ((p.ops.length = p.ops.length ∧ ∀ (i : Nat), i < p.ops.length → cOpd (p.ops.getD i opd0) = cOpd (p.ops.getD i opd0)) ∧ (p.ins.length = p.ins.length ∧ ∀ (i :
  Nat), i < p.ins.length → cIns (p.ins.getD i ins0) = cIns (p.ins.getD i ins0)) ∧ p.mons.length = p.mons.length ∧ ∀ (i : Nat), i < p.mons.length → cMon (p.mons.getD i mon0) =
  cMon (p.mons.getD i mon0)) ∧ (x.op = x.op ∧ x.args.length = x.args.length ∧ ∀ (i : Nat), i < x.args.length → [AV.int IntKind.i64 (x.args.getD i (0 : Int))] = [AV.int
  IntKind.i64 (x.args.getD i (0 : Int))]) ∧ ((p.ops.getD (x.args.getD i.val (0 : Int)).toNat opd0).name = (argBefore p x j.val).name ∧ (p.ops.getD (x.args.getD i.val (0 :
  Int)).toNat opd0).kind = (argBefore p x j.val).kind ∧ (p.ops.getD (x.args.getD i.val (0 : Int)).toNat opd0).ty.k = (argBefore p x j.val).ty.k ∧ (p.ops.getD (x.args.getD i.val
  (0 : Int)).toNat opd0).ty.l = (argBefore p x j.val).ty.l ∧ (p.ops.getD (x.args.getD i.val (0 : Int)).toNat opd0).ty.s = (argBefore p x j.val).ty.s ∧ (p.ops.getD (x.args.getD
  i.val (0 : Int)).toNat opd0).n = (argBefore p x j.val).n ∧ (p.ops.getD (x.args.getD i.val (0 : Int)).toNat opd0).v = (argBefore p x j.val).v ∧ (p.ops.getD (x.args.getD i.val (0
  : Int)).toNat opd0).base = (argBefore p x j.val).base ∧ (p.ops.getD (x.args.getD i.val (0 : Int)).toNat opd0).off = (argBefore p x j.val).off ∧ (p.ops.getD (x.args.getD i.val
  (0 : Int)).toNat opd0).tgt = (argBefore p x j.val).tgt) ∧ True))) ∧ (decide ((↑i.val : Int) < (↑x.args.length : Int)) = false → (0 : Int) = (0 : Int))))) (by kernel_rfl) ?_⟩
    simp only [Ob_iff, inI64, decide_eq_true_eq, decide_eq_false_iff_not, Bool.and_eq_true, Bool.not_eq_true', Bool.not_eq_false', Bool.and_eq_false_iff, true_and, implies_true, and_true]
    obtain ⟨o1, o2, o3⟩ := insRight he
    have hop : ((x.op.toNat : Nat) : Int) = x.op := Int.toNat_of_nonneg o1.1
    rw [hop]
    obtain ⟨q1, q2, _⟩ := hb
    unfold maxLen at q1 hb2
    refine And.intro (fun h => by omega) (fun _ => And.intro (by omega) (And.intro (fun h => absurd o2 (by omega)) (fun _ => And.intro ?_ ?_)))
    · exact ⟨⟨0, Nat.zero_le _⟩, rfl, rfl, rfl, rfl, rfl, rfl, rfl, rfl, rfl, rfl, rfl⟩
    · rintro ⟨i, hi⟩ h
      dsimp only at h ⊢
      have h' : i < x.args.length := Int.ofNat_lt.1 h
      obtain ⟨a1, a2⟩ := o3 i h'
      have hf := fits_P hR o1 o2 o3 h' a2
      have hlt : x.args.getD i 0 < (p.ops.length : Int) := by omega
      refine And.intro ⟨Int.natCast_nonneg i, h⟩ (And.intro (by omega) (And.intro (fun h => by omega) (fun _ => And.intro ⟨a1.1, hlt⟩ (And.intro (by omega) (And.intro ⟨Int.natCast_nonneg i, by rw [← o2]; exact h⟩ (And.intro (fun h => ?_) (fun _ => And.intro ⟨a1.1, hlt⟩ (And.intro ?_ ?_))))))))
      · have h : fitsP (argOpd p x i) (argBefore p x i) ((roles x.op).getD i 0) = false := h
        rw [hf] at h; cases h
      · exact succ_in h' (by unfold maxLen; omega)
      · exact ⟨⟨i + 1, h'⟩, sub_step h', rfl, rfl, rfl, rfl, rfl, rfl, rfl, rfl, rfl, rfl, rfl⟩
  · exact (Tr.run_fail hr).elim
end Go.Proofs.YtgcnbicoajjlaaaGreatDoor
end
