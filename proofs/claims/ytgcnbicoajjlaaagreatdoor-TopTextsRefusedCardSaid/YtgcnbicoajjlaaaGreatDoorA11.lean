/-
What is proved: 'midrangetop.TopTextsRefused' returns true for every input, and its arguments read behind the call as they read before (the tied card of the statement 'TopTextsRefused').
  Its conditions: the row's own: the ten listed package-level variables start as the program's text lays them (the card ties them to that text); nothing else is asked.
  Part 11 of 15.
-/
import Derived.Test.YtgcnbicoajjlaaaGreatDoorA10
set_option linter.unusedSectionVars false
set_option linter.unusedVariables false
set_option linter.unusedSimpArgs false
section
set_option linter.unusedVariables false
set_option linter.unusedSimpArgs false
set_option maxRecDepth 100000
namespace Go.Proofs.YtgcnbicoajjlaaaGreatDoor
open Go Go.Eng Go.Tx
variable {m : Int}
noncomputable def parseAll (s : Str) : Str := Lib.trimLeftB (Lib.cut (s.drop (minus s)) [46]).1 48 ++ (Lib.cut (s.drop (minus s)) [46]).2.1
noncomputable def parseErr (s : Str) : Int := if 40 < s.length then 2 else if s.length = 0 then 1 else if layErr s ≠ 0 then layErr s else if 15 < (parseAll s).length then 19 else 0
noncomputable def CparseNumber : Con
  | [.str s] => .need (s.length ≤ 10000) (.ret (.tup [.agg [.int .i64 (parseNum s).2.1, .int .i64 (parseNum s).2.2], .any, .int .i64 (parseErr s)]))
  | _ => .fail
theorem u8_eq (c d : UInt8) : c.toNat = d.toNat ↔ c = d := UInt8.toNat_inj
theorem lay_parts {s : Str} (h : layErr s = 0) : runOf s (minus s) ≠ 0 ∧ ¬ (s.getD (minus s) 0 = 48 ∧ minus s + 1 < minus s + runOf s (minus s)) ∧
    (minus s + runOf s (minus s) = s.length ∨ (minus s + runOf s (minus s) ≠ s.length ∧ s.getD (minus s + runOf s (minus s)) 0 = 46 ∧ runOf s (minus s + runOf s (minus s) + 1) ≠ 0 ∧ ¬ minus s + runOf s (minus s) + 1 + runOf s (minus s + runOf s (minus s) + 1) < s.length)) := by
  unfold layErr layE at h
  have e1 : (s.getD (minus s) 0).toNat = 48 ↔ s.getD (minus s) 0 = 48 := u8_eq _ 48
  have e2 : (s.getD (minus s + runOf s (minus s)) 0).toNat = 46 ↔ s.getD (minus s + runOf s (minus s)) 0 = 46 := u8_eq _ 46
  simp only [e1, ne_eq, e2] at h
  split at h
  · split at h <;> omega
  · rename_i h1
    split at h
    · omega
    · rename_i h2
      refine ⟨h1, h2, ?_⟩
      split at h
      · exact .inl ‹_›
      · rename_i h3
        split at h
        · omega
        · rename_i h4
          split at h
          · split at h <;> omega
          · rename_i h5
            split at h
            · omega
            · rename_i h6
              exact .inr ⟨h3, Decidable.not_not.1 h4, h5, h6⟩
theorem numOk_lay (s : Str) : numOk s = true ↔ s.length ≠ 0 ∧ s.length ≤ 40 ∧ layErr s = 0 := by
  unfold numOk layErr layE
  have e1 : (s.getD (minus s) 0).toNat = 48 ↔ s.getD (minus s) 0 = 48 := u8_eq _ 48
  have e2 : (s.getD (minus s + runOf s (minus s)) 0).toNat = 46 ↔ s.getD (minus s + runOf s (minus s)) 0 = 46 := u8_eq _ 46
  simp only [e1, ne_eq, e2]
  by_cases h0 : s.length = 0 ∨ 40 < s.length
  · rw [if_pos h0]
    refine ⟨fun h => (by cases h), fun h => ?_⟩
    omega
  · rw [if_neg h0]
    rw [not_or] at h0
    have h1 : s.length ≠ 0 ∧ s.length ≤ 40 := ⟨h0.1, by omega⟩
    split
    · simp; intros; split <;> omega
    · split
      · simp
      · split
        · simp [h1.1, h1.2]
        · split
          · simp
          · rename_i h6
            by_cases h7 : runOf s (minus s + runOf s (minus s) + 1) = 0
            · rw [if_pos (.inl h7), if_pos h7]
              simp; intros; split <;> omega
            · rw [if_neg h7]
              by_cases h8 : minus s + runOf s (minus s) + 1 + runOf s (minus s + runOf s (minus s) + 1) < s.length
              · rw [if_pos (.inr h8), if_pos h8]; simp
              · rw [if_neg (fun h => h.elim h7 h8), if_neg h8]
                simp [h1.1, h1.2]
theorem digs_takeWhile (t : Str) : Digs (t.takeWhile isDig) := fun c hc => List.all_eq_true.1 List.all_takeWhile c hc
theorem digs_of_len {t : Str} (h : t.length ≤ (t.takeWhile isDig).length) : Digs t := by
  have e := List.takeWhile_append_dropWhile (p := isDig) (l := t)
  have hl := congrArg List.length e
  rw [List.length_append] at hl
  have : t.dropWhile isDig = [] := List.length_eq_zero_iff.1 (by omega)
  rw [this, List.append_nil] at e
  rw [← e]
  exact digs_takeWhile t
theorem digs_cut {s : Str} (h : layErr s = 0) : Digs (Lib.cut (s.drop (minus s)) [46]).1 ∧ Digs (Lib.cut (s.drop (minus s)) [46]).2.1 := by
  obtain ⟨h1, h2, h3⟩ := lay_parts h
  rcases h3 with h3 | ⟨h3, h4, h5, h6⟩
  · have hd : Digs (s.drop (minus s)) := digs_of_len (by
      have : (s.drop (minus s)).length = s.length - minus s := List.length_drop ..
      unfold runOf at h3
      omega)
    rw [cut_miss (hd.no (by decide))]
    exact ⟨hd, fun c hc => by cases hc⟩
  · have hlt : minus s + runOf s (minus s) < s.length := by
      rcases Nat.lt_or_ge (minus s + runOf s (minus s)) s.length with h | h
      · exact h
      · rw [List.getD_eq_getElem?_getD, List.getElem?_eq_none h] at h4
        cases h4
    have e : s.drop (minus s) = (s.drop (minus s)).takeWhile isDig ++ s.drop (minus s + runOf s (minus s)) := by
      rw [← List.drop_drop]
      have e := List.takeWhile_append_dropWhile (p := isDig) (l := s.drop (minus s))
      unfold runOf
      generalize (s.drop (minus s)) = t at *
      have : t.drop (t.takeWhile isDig).length = t.dropWhile isDig := by
        conv => lhs; rw [← e]
        rw [List.takeWhile_append_dropWhile]
        conv => lhs; arg 2; rw [← e]
        exact List.drop_left' rfl
      rw [this, e]
    have e2 : s.drop (minus s + runOf s (minus s)) = 46 :: s.drop (minus s + runOf s (minus s) + 1) := by
      rw [List.drop_eq_getElem_cons hlt]
      congr 1
      rw [← h4, List.getD_eq_getElem?_getD, List.getElem?_eq_getElem hlt]
      rfl
    rw [e2] at e
    rw [e, cut_hit ((digs_takeWhile _).no (by decide))]
    refine ⟨digs_takeWhile _, digs_of_len ?_⟩
    dsimp only
    rw [List.length_drop]
    have : runOf s (minus s + runOf s (minus s) + 1) = ((s.drop (minus s + runOf s (minus s) + 1)).takeWhile isDig).length := rfl
    omega
theorem digs_all {s : Str} (h : layErr s = 0) : Digs (parseAll s) := by
  obtain ⟨h1, h2⟩ := digs_cut h
  unfold parseAll
  refine Digs.append (fun c hc => ?_) h2
  exact h1 c ((List.dropWhile_suffix _).subset hc)
theorem valD_lt : ∀ {l : Str} {a : Nat}, Digs l → valD a l < (a + 1) * 10 ^ l.length
  | [], a, _ => by rw [valD_nil]; simp
  | c :: l, a, h => by
    have hc := h c (by simp)
    simp only [isDig, decide_eq_true_eq] at hc
    have hd : dv c ≤ 9 := by unfold dv; omega
    have ih := valD_lt (l := l) (a := a * 10 + dv c) (fun x hx => h x (by simp [hx]))
    rw [valD_cons, List.length_cons, Nat.pow_succ]
    have : (a * 10 + dv c + 1) * 10 ^ l.length ≤ ((a + 1) * 10) * 10 ^ l.length := Nat.mul_le_mul_right _ (by omega)
    have e : (a + 1) * (10 ^ l.length * 10) = ((a + 1) * 10) * 10 ^ l.length := by rw [Nat.mul_comm (10 ^ l.length), Nat.mul_assoc]
    exact Nat.lt_of_lt_of_le ih (Nat.le_trans this (Nat.le_of_eq e.symm))
theorem digitsVal_append : ∀ (l r : Str) (a : Int), digitsVal a (l ++ r) = digitsVal (digitsVal a l) r
  | [], r, a => rfl
  | c :: l, r, a => by
    rw [List.cons_append, digitsVal, digitsVal]
    exact digitsVal_append l r _
theorem digitsVal_in {l : Str} (h : Digs l) (hl : l.length ≤ 15) : 0 ≤ digitsVal 0 l ∧ digitsVal 0 l < 1000000000000000 := by
  have e : digitsVal 0 l = (valD 0 l : Nat) := digitsVal_eq l 0 h
  have h1 := valD_lt (a := 0) h
  have h2 : (10 : Nat) ^ l.length ≤ 10 ^ 15 := Nat.pow_le_pow_right (by omega) hl
  have h3 : (10 : Nat) ^ 15 = 1000000000000000 := by decide
  omega
theorem digitsVal_step {l : Str} {j : Nat} (hj : j < l.length) : digitsVal 0 (l.take (j + 1)) = digitsVal 0 (l.take j) * 10 + (((l.getD j 0).toNat : Int) - 48) := by
  rw [List.take_succ_eq_append_getElem hj, digitsVal_append, digitsVal, digitsVal, List.getD_eq_getElem?_getD, List.getElem?_eq_getElem hj]
  rfl
theorem wrap_dig {n : Int} (h0 : 0 ≤ n) (h1 : n ≤ 100) : IntKind.i64.wrap (IntKind.u8.wrap n) = n := by
  have e : IntKind.u8.wrap n = n := by
    have e0 : n % 256 = n := Int.emod_eq_of_lt h0 (by omega)
    show (if (false && decide (n % 256 ≥ 128)) = true then n % 256 - 256 else n % 256) = n
    simp [e0]
  rw [e]
  have e0 : n % 18446744073709551616 = n := Int.emod_eq_of_lt h0 (by omega)
  show (if (true && decide (n % 18446744073709551616 ≥ 9223372036854775808)) = true then n % 18446744073709551616 - 18446744073709551616 else n % 18446744073709551616) = n
  rw [e0, if_neg]
  simp; omega
theorem parse_no {s : Str} (h : parseErr s ≠ 0) : parseNum s = (false, 0, 0) := by
  unfold parseErr at h
  unfold parseNum
  by_cases hn : numOk s = true
  · rw [if_pos hn]
    obtain ⟨h1, h2, h3⟩ := (numOk_lay s).1 hn
    rw [if_neg (by omega), if_neg h1, if_neg (by rw [h3]; simp)] at h
    have h4 : 15 < (parseAll s).length := by
      by_cases h4 : 15 < (parseAll s).length
      · exact h4
      · rw [if_neg h4] at h; exact absurd rfl h
    exact if_pos h4
  · rw [if_neg hn]
theorem parse_yes {s : Str} (h : parseErr s = 0) : layErr s = 0 ∧ s.length ≠ 0 ∧ s.length ≤ 40 ∧ (parseAll s).length ≤ 15 ∧ parseNum s = (true, (if minus s = 1 then -digitsVal 0 (parseAll s) else digitsVal 0 (parseAll s)), ((Lib.cut (s.drop (minus s)) [46]).2.1.length : Int)) := by
  unfold parseErr at h
  split at h
  · omega
  · rename_i h1
    split at h
    · omega
    · rename_i h2
      split at h
      · exact absurd h ‹_›
      · rename_i h3
        have h3 := Decidable.not_not.1 h3
        split at h
        · omega
        · rename_i h4
          refine ⟨h3, h2, by omega, by omega, ?_⟩
          unfold parseNum
          rw [if_pos ((numOk_lay s).2 ⟨h2, by omega, h3⟩)]
          exact if_neg h4
theorem ints2_ex (a b : Int) : ∃ l : List Int, eqv (slInts l) (AV.sl true 1 2 fun i => List.take 1 (List.drop (i * 1) [AV.int IntKind.i64 a, AV.int IntKind.i64 b])) :=
  ⟨[a, b], rfl, fun i hi => by match i, hi with | 0, _ => rfl | 1, _ => rfl⟩
theorem cut_le (s sep : Str) : (Lib.cut s sep).1.length ≤ s.length ∧ (Lib.cut s sep).2.1.length ≤ s.length := by
  unfold Lib.cut
  split
  · exact ⟨by simp; omega, by simp⟩
  · exact ⟨Nat.le_refl _, Nat.zero_le _⟩
noncomputable def inv114 (s : Str) : Eng.Inv :=
  ⟨{ j : Nat // j ≤ (parseAll s).length }, fun j => [(0, .str s), (2, .ptr 2 0), (6, I (minus s)), (10, .str (Lib.cut (s.drop (minus s)) [46]).2.1), (13, I (digitsVal 0 ((parseAll s).take j.1))), (57, slBytes (parseAll s)), (58, I (parseAll s).length), (59, I j.1)], fun _ => [(2, .box [I 0, I 0] false)], fun j => (parseAll s).length - j.1⟩
theorem ok114 : Ok m 114 CparseNumber := fn_ok2 (cons_cons ok125 (cons_cons ok124 (cons_cons ok140 (cons_cons ok23 (cons_cons ok141 cons_nil))))) Tryz.func114 (by kernel_rfl) fun xs r hr hp => by
  unfold CparseNumber at hr
  split at hr
  · rename_i s
    obtain ⟨hs, hr⟩ := Tr.run_need hr
    obtain rfl := Tr.run_ret hr
    clear hr hp
    refine ⟨_, [(0, inv114 s)], args_self _, of_nice (Ob (∃ (l : List Int), eqv (slInts l) (AV.sl true (1 : Nat) (2 : Nat) fun (i : Nat) => List.take (1 : Nat) (List.drop (i * (1 : Nat)) [AV.int IntKind.i64 (bif decide ((40 : Int)
  < (↑(List.length s) : Int)) then (2 : Int) else (0 : Int)), AV.int IntKind.i64 (bif decide (s = []) then (1 : Int) else (0 : Int))]))) ∧ ((!decide (firstNZ [bif decide ((40 :
  Int) < (↑(List.length s) : Int)) then (2 : Int) else (0 : Int), bif decide (s = []) then (1 : Int) else (0 : Int)] = (0 : Int))) = true → ((0 : Int) = (parseNum s).snd.fst ∧ (0
  : Int) = (parseNum s).snd.snd) ∧ True ∧ firstNZ [bif decide ((40 : Int) < (↑(List.length s) : Int)) then (2 : Int) else (0 : Int), bif decide (s = []) then (1 : Int) else (0 :
  Int)] = parseErr s) ∧ ((!decide (firstNZ [bif decide ((40 : Int) < (↑(List.length s) : Int)) then (2 : Int) else (0 : Int), bif decide (s = []) then (1 : Int) else (0 : Int)] =
  (0 : Int))) = false → Ob ((1 : Nat) ≤ List.length s ∧ List.length s ≤ (10000 : Nat)) ∧ ((!decide (layErr s = (0 : Int))) = true → ((0 : Int) = (parseNum s).snd.fst ∧ (0 : Int)
  = (parseNum s).snd.snd) ∧ True ∧ layErr s = parseErr s) ∧ ((!decide (layErr s = (0 : Int))) = false → Ob (((0 : Int) ≤ if layErr s = (0 : Int) then (↑(minus s) : Int) else (0 :
  Int)) ∧ (if layErr s = (0 : Int) then (↑(minus s) : Int) else (0 : Int)) ≤ (↑(List.length s) : Int)) ∧ Ob ((List.take (List.length s - (if layErr s = (0 : Int) then (↑(minus s)
  : Int) else (0 : Int)).toNat) (List.drop (if layErr s = (0 : Int) then (↑(minus s) : Int) else (0 : Int)).toNat s)).length < (4294967281 : Nat)) ∧ Ob (UInt8.toNat (48 : UInt8)
  < (128 : Nat)) ∧ Ob ((Lib.trimLeftB (Lib.cut (List.take (List.length s - (if layErr s = (0 : Int) then (↑(minus s) : Int) else (0 : Int)).toNat) (List.drop (if layErr s = (0 :
  Int) then (↑(minus s) : Int) else (0 : Int)).toNat s)) [(46 : UInt8)]).fst (48 : UInt8)).length + (Lib.cut (List.take (List.length s - (if layErr s = (0 : Int) then (↑(minus s)
  : Int) else (0 : Int)).toNat) (List.drop (if layErr s = (0 : Int) then (↑(minus s) : Int) else (0 : Int)).toNat s)) [(46 : UInt8)]).snd.fst.length ≤ (9223372036854775807 :
  Nat)) ∧ (decide ((15 : Int) < (↑(Lib.trimLeftB (Lib.cut (List.take (List.length s - (if layErr s = (0 : Int) then (↑(minus s) : Int) else (0 : Int)).toNat) (List.drop (if
  layErr s = (0 : Int) then (↑(minus s) : Int) else (0 : Int)).toNat s)) [(46 : UInt8)]).fst (48 : UInt8) ++ (Lib.cut (List.take (List.length s - (if layErr s = (0 : Int) then
  (↑(minus s) : Int) else (0 : Int)).toNat) (List.drop (if layErr s = (0 : Int) then (↑(minus s) : Int) else (0 : Int)).toNat s)) [(46 : UInt8)]).snd.fst).length : Int)) = true →
  ((0 : Int) = (parseNum s).snd.fst ∧ (0 : Int) = (parseNum s).snd.snd) ∧ True ∧ (19 : Int) = parseErr s) ∧ (decide ((15 : Int) < (↑(Lib.trimLeftB (Lib.cut (List.take
  (List.length s - (if layErr s = (0 : Int) then (↑(minus s) : Int) else (0 : Int)).toNat) (List.drop (if layErr s = (0 : Int) then (↑(minus s) : Int) else (0 : Int)).toNat s))
  [(46 : UInt8)]).fst (48 : UInt8) ++ (Lib.cut (List.take (List.length s - (if layErr s = (0 : Int) then (↑(minus s) : Int) else (0 : Int)).toNat) (List.drop (if layErr s = (0 :
  Int) then (↑(minus s) : Int) else (0 : Int)).toNat s)) [(46 : UInt8)]).snd.fst).length : Int)) = false → Ob ((Lib.trimLeftB (Lib.cut (List.take (List.length s - (if layErr s =
  (0 : Int) then (↑(minus s) : Int) else (0 : Int)).toNat) (List.drop (if layErr s = (0 : Int) then (↑(minus s) : Int) else (0 : Int)).toNat s)) [(46 : UInt8)]).fst (48 : UInt8)
  ++ (Lib.cut (List.take (List.length s - (if layErr s = (0 : Int) then (↑(minus s) : Int) else (0 : Int)).toNat) (List.drop (if layErr s = (0 : Int) then (↑(minus s) : Int) else
  (0 : Int)).toNat s)) [(46 : UInt8)]).snd.fst).length ≤ (1048576 : Nat)) ∧ (∃ (j : { j : Nat // j ≤ List.length (parseAll s) }), s = s ∧ True ∧ (if layErr s = (0 : Int) then
  (↑(minus s) : Int) else (0 : Int)) = (↑(minus s) : Int) ∧ (Lib.cut (List.take (List.length s - (if layErr s = (0 : Int) then (↑(minus s) : Int) else (0 : Int)).toNat)
  (List.drop (if layErr s = (0 : Int) then (↑(minus s) : Int) else (0 : Int)).toNat s)) [(46 : UInt8)]).snd.fst = (Lib.cut (List.drop (minus s) s) [(46 : UInt8)]).snd.fst ∧ (0 :
  Int) = digitsVal (0 : Int) (List.take j.val (parseAll s)) ∧ ((Lib.trimLeftB (Lib.cut (List.take (List.length s - (if layErr s = (0 : Int) then (↑(minus s) : Int) else (0 :
  Int)).toNat) (List.drop (if layErr s = (0 : Int) then (↑(minus s) : Int) else (0 : Int)).toNat s)) [(46 : UInt8)]).fst (48 : UInt8) ++ (Lib.cut (List.take (List.length s - (if
  layErr s = (0 : Int) then (↑(minus s) : Int) else (0 : Int)).toNat) (List.drop (if layErr s = (0 : Int) then (↑(minus s) : Int) else (0 : Int)).toNat s)) [(46 :
  UInt8)]).snd.fst).length = List.length (parseAll s) ∧ ∀ (i : Nat), i < List.length (parseAll s) → strSl (Lib.trimLeftB (Lib.cut (List.take (List.length s - (if layErr s = (0 :
  Int) then (↑(minus s) : Int) else (0 : Int)).toNat) (List.drop (if layErr s = (0 : Int) then (↑(minus s) : Int) else (0 : Int)).toNat s)) [(46 : UInt8)]).fst (48 : UInt8) ++
  (Lib.cut (List.take (List.length s - (if layErr s = (0 : Int) then (↑(minus s) : Int) else (0 : Int)).toNat) (List.drop (if layErr s = (0 : Int) then (↑(minus s) : Int) else (0
  : Int)).toNat s)) [(46 : UInt8)]).snd.fst) i = strSl (parseAll s) i) ∧ (↑(Lib.trimLeftB (Lib.cut (List.take (List.length s - (if layErr s = (0 : Int) then (↑(minus s) : Int)
  else (0 : Int)).toNat) (List.drop (if layErr s = (0 : Int) then (↑(minus s) : Int) else (0 : Int)).toNat s)) [(46 : UInt8)]).fst (48 : UInt8) ++ (Lib.cut (List.take
  (List.length s - (if layErr s = (0 : Int) then (↑(minus s) : Int) else (0 : Int)).toNat) (List.drop (if layErr s = (0 : Int) then (↑(minus s) : Int) else (0 : Int)).toNat s))
  [(46 : UInt8)]).snd.fst).length : Int) = (↑(List.length (parseAll s)) : Int) ∧ (0 : Int) = (↑j.val : Int) ∧ ((0 : Int) = (0 : Int) ∧ (0 : Int) = (0 : Int)) ∧ True) ∧ ∀ (i : { j
  : Nat // j ≤ List.length (parseAll s) }), (decide ((↑i.val : Int) < (↑(List.length (parseAll s)) : Int)) = true → Ob ((0 : Int) ≤ (↑i.val : Int) ∧ (↑i.val : Int) <
  (↑(List.length (parseAll s)) : Int)) ∧ Ob (inI64 (digitsVal (0 : Int) (List.take i.val (parseAll s)) * (10 : Int))) ∧ Ob (inI64 (digitsVal (0 : Int) (List.take i.val (parseAll
  s)) * (10 : Int) + IntKind.i64.wrap (IntKind.u8.wrap ((↑(List.getD (parseAll s) i.val (0 : UInt8)).toNat : Int) - (48 : Int))))) ∧ Ob (inI64 ((↑i.val : Int) + (1 : Int))) ∧ ∃
  (j : { j : Nat // j ≤ List.length (parseAll s) }), (List.length (parseAll s) - j.val).succ.le (List.length (parseAll s) - i.val) ∧ s = s ∧ True ∧ (↑(minus s) : Int) = (↑(minus
  s) : Int) ∧ (Lib.cut (List.drop (minus s) s) [(46 : UInt8)]).snd.fst = (Lib.cut (List.drop (minus s) s) [(46 : UInt8)]).snd.fst ∧ digitsVal (0 : Int) (List.take i.val (parseAll
  s)) * (10 : Int) + IntKind.i64.wrap (IntKind.u8.wrap ((↑(List.getD (parseAll s) i.val (0 : UInt8)).toNat : Int) - (48 : Int))) = digitsVal (0 : Int) (List.take j.val (parseAll
  s)) ∧ (List.length (parseAll s) = List.length (parseAll s) ∧ ∀ (i : Nat), i < List.length (parseAll s) → strSl (parseAll s) i = strSl (parseAll s) i) ∧ (↑(List.length (parseAll
  s)) : Int) = (↑(List.length (parseAll s)) : Int) ∧ (↑i.val : Int) + (1 : Int) = (↑j.val : Int) ∧ ((0 : Int) = (0 : Int) ∧ (0 : Int) = (0 : Int)) ∧ True) ∧ (decide ((↑i.val :
  Int) < (↑(List.length (parseAll s)) : Int)) = false → (decide ((↑(minus s) : Int) = (1 : Int)) = true → Ob (inI64 ((0 : Int) - digitsVal (0 : Int) (List.take i.val (parseAll
  s)))) ∧ ((0 : Int) - digitsVal (0 : Int) (List.take i.val (parseAll s)) = (parseNum s).snd.fst ∧ (↑(Lib.cut (List.drop (minus s) s) [(46 : UInt8)]).snd.fst.length : Int) =
  (parseNum s).snd.snd) ∧ True ∧ (0 : Int) = parseErr s) ∧ (decide ((↑(minus s) : Int) = (1 : Int)) = false → (digitsVal (0 : Int) (List.take i.val (parseAll s)) = (parseNum
  s).snd.fst ∧ (↑(Lib.cut (List.drop (minus s) s) [(46 : UInt8)]).snd.fst.length : Int) = (parseNum s).snd.snd) ∧ True ∧ (0 : Int) = parseErr s)))))) (by kernel_rfl) ?_⟩
    rw [firstTwo]
    refine And.intro ⟨ints2_ex _ _⟩ (And.intro (fun h => ?_) (fun h => ?_))
    · simp only [Bool.not_eq_true', decide_eq_false_iff_not] at h
      have h2 : parseErr s = if (bif decide ((40 : Int) < (s.length : Int)) then (2 : Int) else 0) = 0 then (bif decide (s = []) then (1 : Int) else 0) else (bif decide ((40 : Int) < (s.length : Int)) then (2 : Int) else 0) := by
        unfold parseErr
        by_cases h1 : 40 < s.length
        · rw [if_pos h1]
          have : (40 : Int) < s.length := by omega
          simp [this]
        · rw [if_neg h1]
          have h1' : ¬ (40 : Int) < s.length := by omega
          simp only [h1', decide_false, cond_false, if_true] at h ⊢
          by_cases h3 : s = []
          · subst h3; rfl
          · simp [h3] at h
      have h3 := parse_no (s := s) (by rw [h2]; exact h)
      rw [h3]
      exact ⟨⟨rfl, rfl⟩, trivial, h2.symm⟩
    · simp only [Bool.not_eq_false', decide_eq_true_eq] at h
      have h1 : ¬ 40 < s.length := fun h1 => by
        have : (40 : Int) < s.length := by omega
        simp [this] at h
      have h1' : ¬ (40 : Int) < s.length := by omega
      have h2 : s ≠ [] := fun h2 => by simp [h1', h2] at h
      have h3 : s.length ≠ 0 := fun h3 => h2 (List.length_eq_zero_iff.1 h3)
      clear h h1'
      refine And.intro ⟨by omega, by omega⟩ (And.intro (fun h => ?_) (fun h => ?_))
      · simp only [Bool.not_eq_true', decide_eq_false_iff_not] at h
        have h4 : parseErr s = layErr s := by unfold parseErr; rw [if_neg h1, if_neg h3, if_pos h]
        have h5 := parse_no (s := s) (by rw [h4]; exact h)
        rw [h5]
        exact ⟨⟨rfl, rfl⟩, trivial, h4.symm⟩
      · simp only [Bool.not_eq_false', decide_eq_true_eq] at h
        simp only [h, if_true, Int.toNat_natCast]
        have hm : minus s ≤ s.length := by unfold minus; split <;> omega
        rw [List.take_of_length_le (l := List.drop (minus s) s) (by simp)]
        have hf : Lib.trimLeftB (Lib.cut (s.drop (minus s)) [46]).1 48 ++ (Lib.cut (s.drop (minus s)) [46]).2.1 = parseAll s := rfl
        simp only [hf]
        have hcl := cut_le (s.drop (minus s)) [46]
        rw [List.length_drop] at hcl
        have hal : (parseAll s).length = (Lib.trimLeftB (Lib.cut (s.drop (minus s)) [46]).1 48).length + (Lib.cut (s.drop (minus s)) [46]).2.1.length := by rw [← hf]; exact List.length_append
        have htl : (Lib.trimLeftB (Lib.cut (s.drop (minus s)) [46]).1 48).length ≤ (Lib.cut (s.drop (minus s)) [46]).1.length := (List.dropWhile_suffix _).length_le
        simp only [Ob_iff, inI64, decide_eq_true_eq, decide_eq_false_iff_not, true_and, implies_true, and_true]
        refine And.intro ⟨by omega, by omega⟩ (And.intro (by rw [List.length_drop]; omega) (And.intro (by decide) (And.intro (by omega) (And.intro (fun h4 => ?_) (fun h4 => And.intro (by omega) (And.intro ⟨⟨0, by omega⟩, rfl, rfl⟩ ?_))))))
        · have h5 : parseErr s = 19 := by unfold parseErr; rw [if_neg h1, if_neg h3, if_neg (by simp [h]), if_pos (by omega)]
          have h6 := parse_no (s := s) (by rw [h5]; decide)
          rw [h6]
          exact ⟨⟨rfl, rfl⟩, h5.symm⟩
        · have h5 : parseErr s = 0 := by unfold parseErr; rw [if_neg h1, if_neg h3, if_neg (by simp [h]), if_neg (by omega)]
          obtain ⟨_, _, _, h6, h7⟩ := parse_yes h5
          have hdg := digs_all h
          rw [h7]
          rintro ⟨j, hj⟩
          dsimp only
          have hin := digitsVal_in (l := (parseAll s).take j) (fun c hc => hdg c (List.mem_of_mem_take hc)) (by rw [List.length_take]; omega)
          refine And.intro (fun hl => ?_) (fun hl => ?_)
          · have hl : j < (parseAll s).length := by omega
            have hmem : (parseAll s).getD j 0 ∈ parseAll s := by rw [List.getD_eq_getElem?_getD, List.getElem?_eq_getElem hl]; exact List.getElem_mem hl
            have hc := hdg _ hmem
            simp only [isDig, decide_eq_true_eq] at hc
            have hin2 := digitsVal_in (l := (parseAll s).take (j + 1)) (fun c hc => hdg c (List.mem_of_mem_take hc)) (by rw [List.length_take]; omega)
            have hst := digitsVal_step hl
            rw [wrap_dig (by omega) (by omega), ← hst]
            exact ⟨by omega, by omega, by omega, by omega, ⟨j + 1, hl⟩, sub_step hl, rfl, rfl⟩
          · have hl : j = (parseAll s).length := by omega
            subst hl
            rw [List.take_length] at hin ⊢
            refine And.intro (fun hm1 => ?_) (fun hm1 => ?_)
            · rw [if_pos (by omega)]
              exact ⟨by omega, ⟨by omega, rfl⟩, h5.symm⟩
            · rw [if_neg (by omega)]
              exact ⟨⟨rfl, rfl⟩, h5.symm⟩
  · exact (Tr.run_fail hr).elim
end Go.Proofs.YtgcnbicoajjlaaaGreatDoor
end
section
set_option linter.unusedVariables false
set_option linter.unusedSimpArgs false
set_option maxRecDepth 100000
namespace Go.Proofs.YtgcnbicoajjlaaaGreatDoor
open Go Go.Eng Go.Tx
variable {m : Int}
noncomputable def cByte (c : UInt8) : List AV := [.int .u8 c.toNat]
noncomputable def inv116 (s : Str) : Eng.Inv :=
  ⟨{ x : Str × Str // bytesOf x.1 x.2 = bytesOf [] s ∧ x.1.length + x.2.length ≤ s.length }, fun x => [(0, .str x.1.2), (4, .row 40)], fun x => [(40, .row 5 1 (x.1.1.map cByte) false)], fun x => x.1.2.length⟩
noncomputable def CbytesOf : Con
  | [.str s] => .need (s.length ≤ 10000) (.ret (.tup [.str (bytesOf [] s).1, .prop (bytesOf [] s).2]))
  | _ => .fail
theorem indexByte_in : ∀ (l : Str) (c : UInt8), -1 ≤ Lib.indexByte l c ∧ Lib.indexByte l c < (l.length : Int)
  | [], c => by simp [Lib.indexByte]
  | x :: l, c => by
    have ih := indexByte_in l c
    simp only [Lib.indexByte, List.length_cons]
    split
    · omega
    · split <;> omega
theorem hex_val : ∀ a, a < 16 → ∀ b, b < 16 → IntKind.u8.wrap (IntKind.i64.wrap (((BitVec.ofInt 64 (IntKind.i64.wrap ((a : Nat) * (2 : Int) ^ min (Int.toNat (4 : Int)) 64)) ||| BitVec.ofInt 64 ((b : Nat) : Int)).toNat : Int))) = ((a * 16 + b : Nat) : Int) := by decide
theorem bytes_map : ∀ l : Str, (∀ x ∈ l.map cByte, isByte x) ∧ bytesV (l.map cByte) = l
  | [] => ⟨fun _ h => (by cases h), rfl⟩
  | c :: l => by
    obtain ⟨h1, h2⟩ := bytes_map l
    refine ⟨fun x hx => ?_, ?_⟩
    · rcases List.mem_cons.1 hx with rfl | hx
      · have := c.toNat_lt
        show (0 : Int) ≤ c.toNat ∧ (c.toNat : Int) < 256
        omega
      · exact h1 x hx
    · show UInt8.ofNat ((c.toNat : Int)).toNat :: bytesV (l.map cByte) = c :: l
      rw [h2, Int.toNat_natCast, UInt8.ofNat_toNat]
theorem trimPrefix_le (s p : Str) : (Lib.trimPrefix s p).length ≤ s.length := by
  unfold Lib.trimPrefix
  split
  · simp
  · exact Nat.le_refl _
theorem trimSuffix_le (s p : Str) : (Lib.trimSuffix s p).length ≤ s.length := by
  unfold Lib.trimSuffix
  split
  · rw [List.length_take]; omega
  · exact Nat.le_refl _
theorem ok116 : Ok m 116 CbytesOf := fn_ok2 (cons_cons ok143 cons_nil) Tryz.func116 (by kernel_rfl) fun xs r hr hp => by
  unfold CbytesOf at hr
  split at hr
  · rename_i s
    obtain ⟨hs, hr⟩ := Tr.run_need hr
    obtain rfl := Tr.run_ret hr
    clear hr hp
    refine ⟨_, [(0, inv116 s)], args_self _, of_nice ((∃ (j : { x : Str × Str // bytesOf x.fst x.snd = bytesOf [] s ∧ List.length x.fst + List.length x.snd ≤ List.length s }), s = j.val.snd ∧ True ∧ List.map cByte j.val.fst = [] ∧
  True) ∧ ∀ (i : { x : Str × Str // bytesOf x.fst x.snd = bytesOf [] s ∧ List.length x.fst + List.length x.snd ≤ List.length s }), (decide ((2 : Int) ≤ (↑(List.length i.val.snd)
  : Int)) = true → Ob ((0 : Int) ≤ (0 : Int) ∧ (0 : Int) < (↑(List.length i.val.snd) : Int)) ∧ Ob ((0 : Int) ≤ (1 : Int) ∧ (1 : Int) < (↑(List.length i.val.snd) : Int)) ∧
  ((decide (Lib.indexByte [(48 : UInt8), (49 : UInt8), (50 : UInt8), (51 : UInt8), (52 : UInt8), (53 : UInt8), (54 : UInt8), (55 : UInt8), (56 : UInt8), (57 : UInt8), (65 :
  UInt8), (66 : UInt8), (67 : UInt8), (68 : UInt8), (69 : UInt8), (70 : UInt8)] (List.getD i.val.snd (Int.toNat (0 : Int)) (0 : UInt8)).toNat.toUInt8 < (0 : Int)) || decide
  (Lib.indexByte [(48 : UInt8), (49 : UInt8), (50 : UInt8), (51 : UInt8), (52 : UInt8), (53 : UInt8), (54 : UInt8), (55 : UInt8), (56 : UInt8), (57 : UInt8), (65 : UInt8), (66 :
  UInt8), (67 : UInt8), (68 : UInt8), (69 : UInt8), (70 : UInt8)] (List.getD i.val.snd (Int.toNat (1 : Int)) (0 : UInt8)).toNat.toUInt8 < (0 : Int))) = true → [] = (bytesOf []
  s).fst ∧ false = (bytesOf [] s).snd) ∧ ((decide (Lib.indexByte [(48 : UInt8), (49 : UInt8), (50 : UInt8), (51 : UInt8), (52 : UInt8), (53 : UInt8), (54 : UInt8), (55 : UInt8),
  (56 : UInt8), (57 : UInt8), (65 : UInt8), (66 : UInt8), (67 : UInt8), (68 : UInt8), (69 : UInt8), (70 : UInt8)] (List.getD i.val.snd (Int.toNat (0 : Int)) (0 :
  UInt8)).toNat.toUInt8 < (0 : Int)) || decide (Lib.indexByte [(48 : UInt8), (49 : UInt8), (50 : UInt8), (51 : UInt8), (52 : UInt8), (53 : UInt8), (54 : UInt8), (55 : UInt8), (56
  : UInt8), (57 : UInt8), (65 : UInt8), (66 : UInt8), (67 : UInt8), (68 : UInt8), (69 : UInt8), (70 : UInt8)] (List.getD i.val.snd (Int.toNat (1 : Int)) (0 :
  UInt8)).toNat.toUInt8 < (0 : Int))) = false → Ob ((0 : Int) ≤ (4 : Int)) ∧ Ob ((List.map cByte i.val.fst).length + (List.map (fun (c : AV) => [c]) [AV.int IntKind.u8
  (IntKind.u8.wrap (IntKind.i64.wrap (↑(BitVec.ofInt IntKind.i64.bits (IntKind.i64.wrap (Lib.indexByte [(48 : UInt8), (49 : UInt8), (50 : UInt8), (51 : UInt8), (52 : UInt8), (53
  : UInt8), (54 : UInt8), (55 : UInt8), (56 : UInt8), (57 : UInt8), (65 : UInt8), (66 : UInt8), (67 : UInt8), (68 : UInt8), (69 : UInt8), (70 : UInt8)] (List.getD i.val.snd
  (Int.toNat (0 : Int)) (0 : UInt8)).toNat.toUInt8 * (2 : Int) ^ min (Int.toNat (4 : Int)) IntKind.i64.bits)) ||| BitVec.ofInt IntKind.i64.bits (Lib.indexByte [(48 : UInt8), (49
  : UInt8), (50 : UInt8), (51 : UInt8), (52 : UInt8), (53 : UInt8), (54 : UInt8), (55 : UInt8), (56 : UInt8), (57 : UInt8), (65 : UInt8), (66 : UInt8), (67 : UInt8), (68 :
  UInt8), (69 : UInt8), (70 : UInt8)] (List.getD i.val.snd (Int.toNat (1 : Int)) (0 : UInt8)).toNat.toUInt8)).toNat : Int)))]).length ≤ (1048576 : Nat)) ∧ Ob ((0 : Int) ≤ (2 :
  Int) ∧ (2 : Int) ≤ (↑(List.length i.val.snd) : Int)) ∧ ∃ (j : { x : Str × Str // bytesOf x.fst x.snd = bytesOf [] s ∧ List.length x.fst + List.length x.snd ≤ List.length s }),
  (List.length j.val.snd).succ.le (List.length i.val.snd) ∧ List.take (List.length i.val.snd - Int.toNat (2 : Int)) (List.drop (Int.toNat (2 : Int)) i.val.snd) = j.val.snd ∧ True
  ∧ List.map cByte i.val.fst ++ List.map (fun (c : AV) => [c]) [AV.int IntKind.u8 (IntKind.u8.wrap (IntKind.i64.wrap (↑(BitVec.ofInt IntKind.i64.bits (IntKind.i64.wrap
  (Lib.indexByte [(48 : UInt8), (49 : UInt8), (50 : UInt8), (51 : UInt8), (52 : UInt8), (53 : UInt8), (54 : UInt8), (55 : UInt8), (56 : UInt8), (57 : UInt8), (65 : UInt8), (66 :
  UInt8), (67 : UInt8), (68 : UInt8), (69 : UInt8), (70 : UInt8)] (List.getD i.val.snd (Int.toNat (0 : Int)) (0 : UInt8)).toNat.toUInt8 * (2 : Int) ^ min (Int.toNat (4 : Int))
  IntKind.i64.bits)) ||| BitVec.ofInt IntKind.i64.bits (Lib.indexByte [(48 : UInt8), (49 : UInt8), (50 : UInt8), (51 : UInt8), (52 : UInt8), (53 : UInt8), (54 : UInt8), (55 :
  UInt8), (56 : UInt8), (57 : UInt8), (65 : UInt8), (66 : UInt8), (67 : UInt8), (68 : UInt8), (69 : UInt8), (70 : UInt8)] (List.getD i.val.snd (Int.toNat (1 : Int)) (0 :
  UInt8)).toNat.toUInt8)).toNat : Int)))] = List.map cByte j.val.fst ∧ True)) ∧ (decide ((2 : Int) ≤ (↑(List.length i.val.snd) : Int)) = false → Ob (∀ (x : List AV), x ∈ List.map
  cByte i.val.fst → isByte x) ∧ bytesV (List.map cByte i.val.fst) = (bytesOf [] s).fst ∧ decide (i.val.snd = []) = (bytesOf [] s).snd)) (by kernel_rfl) ?_⟩
    refine And.intro ⟨⟨([], s), rfl, by simp⟩, rfl, trivial, rfl, trivial⟩ ?_
    rintro ⟨⟨acc, t⟩, ht, hl⟩
    dsimp only at ht hl ⊢
    refine And.intro (fun h => ?_) (fun h => ?_)
    · simp only [decide_eq_true_eq] at h
      match t, ht, hl, h with
      | a :: b :: t, ht, hl, h =>
        have ha := indexByte_in hexds a
        have hb := indexByte_in hexds b
        have h16 : (hexds.length : Int) = 16 := rfl
        rw [h16] at ha hb
        have e0 : ([48, 49, 50, 51, 52, 53, 54, 55, 56, 57, 65, 66, 67, 68, 69, 70] : Str) = hexds := rfl
        have ea : (List.getD (a :: b :: t) (Int.toNat 0) 0).toNat.toUInt8 = a := UInt8.ofNat_toNat
        have eb : (List.getD (a :: b :: t) (Int.toNat 1) 0).toNat.toUInt8 = b := UInt8.ofNat_toNat
        rw [bytesOf] at ht
        simp only [List.length_cons] at hl
        simp only [e0, ea, eb, Ob_iff, inI64, Bool.or_eq_true, Bool.or_eq_false_iff, decide_eq_true_eq, decide_eq_false_iff_not, List.length_cons, List.length_map, List.map_cons, List.map_nil, List.length_nil, List.length_append]
        refine And.intro (by omega) (And.intro (by omega) (And.intro (fun h1 => ?_) (fun h1 => And.intro (by omega) (And.intro (by omega) (And.intro (by omega) ?_)))))
        · rw [if_pos h1] at ht
          rw [← ht]
          exact ⟨rfl, rfl⟩
        · rw [if_neg (by omega)] at ht
          obtain ⟨x, hx⟩ : ∃ x : Nat, Lib.indexByte hexds a = x := ⟨(Lib.indexByte hexds a).toNat, by omega⟩
          obtain ⟨y, hy⟩ : ∃ y : Nat, Lib.indexByte hexds b = y := ⟨(Lib.indexByte hexds b).toNat, by omega⟩
          rw [hx] at ha ht ⊢
          rw [hy] at hb ht ⊢
          rw [Int.toNat_natCast, Int.toNat_natCast] at ht
          have hv := hex_val x (by omega) y (by omega)
          have hv2 : IntKind.u8.wrap (IntKind.i64.wrap (((BitVec.ofInt IntKind.i64.bits (IntKind.i64.wrap ((x : Nat) * (2 : Int) ^ min (Int.toNat (4 : Int)) IntKind.i64.bits)) ||| BitVec.ofInt IntKind.i64.bits ((y : Nat) : Int)).toNat : Int))) = ((x * 16 + y : Nat) : Int) := hv
          rw [hv2]
          refine ⟨⟨(acc ++ [UInt8.ofNat (x * 16 + y)], t), ht, by simp; omega⟩, Nat.lt_succ_of_lt (Nat.lt_succ_self t.length), ?_, trivial, ?_, trivial⟩
          · show List.take (t.length + 1 + 1 - 2) t = t
            rw [List.take_of_length_le (by omega)]
          · dsimp only
            rw [List.map_append]
            congr 1
            show [[AV.int .u8 ((x * 16 + y : Nat) : Int)]] = [[AV.int .u8 ((UInt8.ofNat (x * 16 + y)).toNat : Int)]]
            rw [UInt8.toNat_ofNat', Nat.mod_eq_of_lt (by omega)]
      | [], ht, hl, h => simp at h
      | [a], ht, hl, h => simp at h
    · simp only [decide_eq_false_iff_not] at h
      obtain ⟨h1, h2⟩ := bytes_map acc
      refine ⟨⟨h1⟩, Eq.trans ?_ (congrArg Prod.fst ht), Eq.trans ?_ (congrArg Prod.snd ht)⟩
      · rw [h2]
        match t, h with
        | [], _ => rfl
        | [a], _ => rfl
        | a :: b :: t, h => simp at h; omega
      · match t, h with
        | [], _ => rfl
        | [a], _ => rfl
        | a :: b :: t, h => simp at h; omega
  · exact (Tr.run_fail hr).elim
noncomputable def CtypeOf : Con
  | [.str s] => .need (s.length ≤ 10000) (.ret (.tup [aTy (Tx.typeOf s).1, .prop (Tx.typeOf s).2]))
  | _ => .fail
theorem ok78 : Ok m 78 CtypeOf := fn_ok2 (cons_cons ok23 (cons_cons ok47 (cons_cons ok79 (cons_cons ok46 cons_nil)))) Tryz.func78 (by kernel_rfl) fun xs r hr hp => by
  unfold CtypeOf at hr
  split at hr
  · rename_i s
    obtain ⟨hs, hr⟩ := Tr.run_need hr
    obtain rfl := Tr.run_ret hr
    clear hr hp
    refine ⟨_, [], args_self _, of_nice (Ob (List.length s < (4294967281 : Nat)) ∧ Ob (∃ (l : List Str), eqv (slStrs l) (slStrs kindWords)) ∧ Ob ((Lib.cut s [(40 : UInt8)]).snd.fst.length ≤ (9223372036854775807 : Nat))
  ∧ ((decide (idxOf (strs (slStrs kindWords)) (Lib.cut s [(40 : UInt8)]).fst < (0 : Int)) || !Lib.hasSuffix (Lib.cut s [(40 : UInt8)]).snd.fst [(41 : UInt8)]) = true → ((0 : Int)
  = (typeOf s).fst.k ∧ (0 : Int) = (typeOf s).fst.l ∧ (0 : Int) = (typeOf s).fst.s) ∧ false = (typeOf s).snd) ∧ ((decide (idxOf (strs (slStrs kindWords)) (Lib.cut s [(40 :
  UInt8)]).fst < (0 : Int)) || !Lib.hasSuffix (Lib.cut s [(40 : UInt8)]).snd.fst [(41 : UInt8)]) = false → (decide (idxOf (strs (slStrs kindWords)) (Lib.cut s [(40 : UInt8)]).fst
  = (0 : Int)) = true → Ob ((Lib.trimSuffix (Lib.cut s [(40 : UInt8)]).snd.fst [(41 : UInt8)]).length ≤ (281474976710656 : Nat)) ∧ (idxOf (strs (slStrs kindWords)) (Lib.cut s
  [(40 : UInt8)]).fst = (typeOf s).fst.k ∧ atoiN (Lib.trimSuffix (Lib.cut s [(40 : UInt8)]).snd.fst [(41 : UInt8)]) = (typeOf s).fst.l ∧ (0 : Int) = (typeOf s).fst.s) ∧ natOk
  (Lib.trimSuffix (Lib.cut s [(40 : UInt8)]).snd.fst [(41 : UInt8)]) = (typeOf s).snd) ∧ (decide (idxOf (strs (slStrs kindWords)) (Lib.cut s [(40 : UInt8)]).fst = (0 : Int)) =
  false → Ob ((Lib.trimSuffix (Lib.cut s [(40 : UInt8)]).snd.fst [(41 : UInt8)]).length < (4294967281 : Nat)) ∧ Ob ((Lib.cut (Lib.trimSuffix (Lib.cut s [(40 : UInt8)]).snd.fst
  [(41 : UInt8)]) [(44 : UInt8)]).fst.length ≤ (281474976710656 : Nat)) ∧ Ob ((Lib.cut (Lib.trimSuffix (Lib.cut s [(40 : UInt8)]).snd.fst [(41 : UInt8)]) [(44 :
  UInt8)]).snd.fst.length ≤ (281474976710656 : Nat)) ∧ (idxOf (strs (slStrs kindWords)) (Lib.cut s [(40 : UInt8)]).fst = (typeOf s).fst.k ∧ atoiN (Lib.cut (Lib.trimSuffix
  (Lib.cut s [(40 : UInt8)]).snd.fst [(41 : UInt8)]) [(44 : UInt8)]).fst = (typeOf s).fst.l ∧ atoiN (Lib.cut (Lib.trimSuffix (Lib.cut s [(40 : UInt8)]).snd.fst [(41 : UInt8)])
  [(44 : UInt8)]).snd.fst = (typeOf s).fst.s) ∧ (bif natOk (Lib.cut (Lib.trimSuffix (Lib.cut s [(40 : UInt8)]).snd.fst [(41 : UInt8)]) [(44 : UInt8)]).fst then natOk (Lib.cut
  (Lib.trimSuffix (Lib.cut s [(40 : UInt8)]).snd.fst [(41 : UInt8)]) [(44 : UInt8)]).snd.fst else false) = (typeOf s).snd))) (by kernel_rfl) ?_⟩
    have l1 := cut_le s [40]
    have l2 := trimSuffix_le (Lib.cut s [40]).2.1 [41]
    have l3 := cut_le (Lib.trimSuffix (Lib.cut s [40]).2.1 [41]) [44]
    simp only [Ob_iff, exStrs, strs_sl, true_and, band_c, Bool.or_eq_true, Bool.or_eq_false_iff, Bool.not_eq_true', Bool.not_eq_false', decide_eq_true_eq, decide_eq_false_iff_not]
    unfold Tx.typeOf
    refine And.intro (by omega) (And.intro (by omega) (And.intro (fun h => ?_) (fun h => And.intro (fun h2 => And.intro (by omega) ?_) (fun h2 => And.intro (by omega) (And.intro (by omega) (And.intro (by omega) ?_))))))
    · dsimp only
      rw [if_pos h]
      exact ⟨⟨rfl, rfl, rfl⟩, rfl⟩
    · dsimp only
      rw [if_neg (by rw [h.2]; simp; exact Int.not_lt.1 h.1), if_pos h2]
      exact ⟨⟨rfl, rfl, rfl⟩, rfl⟩
    · dsimp only
      rw [if_neg (by rw [h.2]; simp; exact Int.not_lt.1 h.1), if_neg h2]
      exact ⟨⟨rfl, rfl, rfl⟩, rfl⟩
  · exact (Tr.run_fail hr).elim
noncomputable def CvalueOf : Con
  | [v, .str s] => .need (v = aTy (tyOf v) ∧ s.length ≤ 10000) (.ret (.tup [aVal (valueOf (tyOf v) s).1 (valueOf (tyOf v) s).2.1, .prop (valueOf (tyOf v) s).2.2]))
  | _ => .fail
noncomputable def ValP (t : Ty) (s r i : Str) (a b : UInt8) (hx : Bool) (V : Int × Str × Bool) : Prop :=
  (((!decide (t.k = (0 : Int))) = true → Ob (List.length s ≤ (10000 : Nat)) ∧ ((parseNum s).snd.fst = V.fst ∧ [] = V.snd.fst) ∧ (bif decide (parseErr s = (0 : Int)) then decide
  ((parseNum s).snd.snd = t.s) else false) = V.snd.snd) ∧ ((!decide (t.k = (0 : Int))) = false → Ob (decide ((↑r.length : Int) < (2 : Int)) = false → (0 : Int) ≤ (0 : Int) ∧ (0 :
  Int) < (↑r.length : Int)) ∧ Ob ((decide ((↑r.length : Int) < (2 : Int)) || !decide ((↑a.toNat : Int) = (39 : Int))) = false → inI64 ((↑r.length : Int) - (1 : Int))) ∧ Ob
  ((decide ((↑r.length : Int) < (2 : Int)) || !decide ((↑a.toNat : Int) = (39 : Int))) = false → (0 : Int) ≤ (↑r.length : Int) - (1 : Int) ∧ (↑r.length : Int) - (1 : Int) <
  (↑r.length : Int)) ∧ ((decide ((↑r.length : Int) < (2 : Int)) || !decide ((↑a.toNat : Int) = (39 : Int)) || !decide ((↑b.toNat : Int) = (39 : Int))) = true → ((0 : Int) = V.fst
  ∧ [] = V.snd.fst) ∧ false = V.snd.snd) ∧ ((decide ((↑r.length : Int) < (2 : Int)) || !decide ((↑a.toNat : Int) = (39 : Int)) || !decide ((↑b.toNat : Int) = (39 : Int))) = false
  → Ob (inI64 ((↑r.length : Int) - (1 : Int))) ∧ Ob ((0 : Int) ≤ (↑r.length : Int) - (1 : Int) ∧ (↑r.length : Int) - (1 : Int) ≤ (↑r.length : Int)) ∧ Ob ((0 : Int) ≤ (1 : Int) ∧
  (1 : Int) ≤ (↑r.length : Int) - (1 : Int)) ∧ (hx = true → Ob (i.length ≤ (10000 : Nat)) ∧ ((0 : Int) = V.fst ∧ (bytesOf [] (i)).fst = V.snd.fst) ∧ (bytesOf [] (i)).snd =
  V.snd.snd) ∧ (hx = false → Ob (i.length < (4294967281 : Nat) ∧ (1 : Nat) ≤ [(39 : UInt8), (39 : UInt8)].length ∧ i.length + Lib.countB { data := i.toArray } { data := #[(39 :
  UInt8), (39 : UInt8)] } * [(39 : UInt8)].length ≤ (140737488355328 : Nat)) ∧ ((0 : Int) = V.fst ∧ Lib.replaceAll (i) [(39 : UInt8), (39 : UInt8)] [(39 : UInt8)] = V.snd.fst) ∧
  true = V.snd.snd))))
theorem hasPrefix_drop {s p : Str} : Lib.hasPrefix s p = p.isPrefixOf s := rfl
theorem val_key {t : Ty} {s r i : Str} {a b : UInt8} {hx : Bool} {V : Int × Str × Bool} (hs : s.length ≤ 10000) (hr : r.length ≤ 10000) (hi : i.length ≤ 10000)
    (hV : V = if t.k ≠ 0 then ((parseNum s).2.1, [], (parseNum s).1 && decide ((parseNum s).2.2 = t.s)) else if r.length < 2 ∨ a ≠ 39 ∨ b ≠ 39 then (0, [], false) else if hx = true then (0, (bytesOf [] i).1, (bytesOf [] i).2) else (0, Lib.replaceAll i [39, 39] [39], true)) :
    ValP t s r i a b hx V := by
  have ea : ((a.toNat : Int) = 39) ↔ a = 39 := by
    rw [← u8_eq]; show _ ↔ a.toNat = 39; omega
  have eb : ((b.toNat : Int) = 39) ↔ b = 39 := by
    rw [← u8_eq]; show _ ↔ b.toNat = 39; omega
  have hc : Lib.countB ⟨i.toArray⟩ ⟨#[39, 39]⟩ ≤ i.length := by
    have := Lib.countB_le ⟨#[39, 39]⟩ (by decide) _ ⟨i.toArray⟩ (Nat.le_refl _)
    simpa [ByteArray.size] using this
  unfold ValP
  simp only [Ob_iff, inI64, band_c, Bool.or_eq_true, Bool.or_eq_false_iff, Bool.not_eq_true', Bool.not_eq_false', decide_eq_true_eq, decide_eq_false_iff_not, ea, eb, List.length_cons, List.length_nil]
  refine And.intro (fun h => ?_) (fun h => ?_)
  · rw [if_pos h] at hV
    subst hV
    refine ⟨hs, ⟨rfl, rfl⟩, ?_⟩
    have e : decide (parseErr s = 0) = (parseNum s).1 := by
      by_cases he : parseErr s = 0
      · obtain ⟨_, _, _, _, h5⟩ := parse_yes he
        rw [h5]; simpa using he
      · rw [parse_no he]; simpa using he
    rw [e]
  · rw [if_neg (by simpa using h)] at hV
    refine ⟨fun h1 => by omega, fun h1 => by omega, fun h1 => by omega, fun h1 => ?_, fun h1 => ?_⟩
    · rw [if_pos (by
        rcases h1 with (h1 | h1) | h1
        · exact .inl (by omega)
        · exact .inr (.inl h1)
        · exact .inr (.inr h1))] at hV
      subst hV
      exact ⟨⟨rfl, rfl⟩, rfl⟩
    · rw [if_neg (by
        rintro (h2 | h2 | h2)
        · omega
        · exact h2 h1.1.2
        · exact h2 h1.2)] at hV
      refine ⟨by omega, by omega, by omega, fun h2 => ?_, fun h2 => ?_⟩
      · rw [if_pos h2] at hV
        subst hV
        exact ⟨hi, ⟨rfl, rfl⟩, rfl⟩
      · rw [if_neg (by simp [h2])] at hV
        subst hV
        exact ⟨⟨by omega, by omega, by omega⟩, ⟨rfl, rfl⟩, rfl⟩
theorem ok80 : Ok m 80 CvalueOf := fn_ok2 (cons_cons ok114 (cons_cons ok24 (cons_cons ok115 (cons_cons ok116 (cons_cons ok69 cons_nil))))) Tryz.func80 (by kernel_rfl) fun xs r hr hp => by
  unfold CvalueOf at hr
  split at hr
  · rename_i v s
    obtain ⟨⟨hv, hs⟩, hr⟩ := Tr.run_need hr
    obtain rfl := Tr.run_ret hr
    generalize tyOf v = t at *
    subst hv
    clear hr hp
    have l1 := trimPrefix_le s [88]
    generalize hi : List.take ((((Lib.trimPrefix s [88]).length : Int) - 1).toNat - Int.toNat 1) (List.drop (Int.toNat 1) (Lib.trimPrefix s [88])) = i
    have hil : i.length ≤ 10000 := by rw [← hi, List.length_take, List.length_drop]; omega
    refine ⟨_, [], args_self _, of_nice (ValP t s (Lib.trimPrefix s [88]) (List.take ((((Lib.trimPrefix s [88]).length : Int) - 1).toNat - Int.toNat 1) (List.drop (Int.toNat 1) (Lib.trimPrefix s [88]))) ((Lib.trimPrefix s [88]).getD 0 0) ((Lib.trimPrefix s [88]).getD (((Lib.trimPrefix s [88]).length : Int) - 1).toNat 0) (Lib.hasPrefix s [88]) (valueOf t s)) (by kernel_rfl) ?_⟩
    rw [hi]
    refine val_key hs (by omega) hil ?_
    unfold valueOf
    rw [← hi]
    have e1 : (((Lib.trimPrefix s [88]).length : Int) - 1).toNat = (Lib.trimPrefix s [88]).length - 1 := by omega
    have e2 : List.take ((Lib.trimPrefix s [88]).length - 1 - Int.toNat 1) (List.drop (Int.toNat 1) (Lib.trimPrefix s [88])) = ((Lib.trimPrefix s [88]).drop 1).take ((Lib.trimPrefix s [88]).length - 2) := by
      rw [show Int.toNat 1 = 1 from rfl, show (Lib.trimPrefix s [88]).length - 1 - 1 = (Lib.trimPrefix s [88]).length - 2 by omega]
    rw [e1, e2]
  · exact (Tr.run_fail hr).elim
end Go.Proofs.YtgcnbicoajjlaaaGreatDoor
end
section
set_option linter.unusedVariables false
set_option linter.unusedSimpArgs false
set_option maxRecDepth 100000
namespace Go.Proofs.YtgcnbicoajjlaaaGreatDoor
open Go Go.Eng Go.Tx
variable {m : Int}
noncomputable def Cdeclared : Con
  | [.str s] => .need (s.length ≤ 10000) (.ret (.tup [aOpd (declared s).1, .prop (declared s).2]))
  | _ => .fail
noncomputable def DeclP (s c r1 d r2 e r3 f r4 inn g g2 : Str) (b2 hs nm : Bool) (T : Ty × Bool) (V : Int × Str × Bool) (D : Opd × Bool) : Prop :=
  (Ob (List.length s < (4294967281 : Nat)) ∧ Ob (r1.length < (4294967281 : Nat)) ∧ (decide (c = [(80 : UInt8), (84 : UInt8), (82 : UInt8)]) = true → (d = D.fst.name ∧ (3 : Int) =
  D.fst.kind ∧ (0 : Int) = D.fst.ty.k ∧ (0 : Int) = D.fst.ty.l ∧ (0 : Int) = D.fst.ty.s ∧ (0 : Int) = D.fst.n ∧ [] = D.fst.v ∧ [] = D.fst.base ∧ (0 : Int) = D.fst.off ∧ (0 : Int) =
  D.fst.tgt) ∧ (!b2) = D.snd) ∧ (decide (c = [(80 : UInt8), (84 : UInt8), (82 : UInt8)]) = false → (decide (c = [(76 : UInt8), (65 : UInt8), (66 : UInt8), (69 : UInt8), (76 :
  UInt8)]) = true → Ob (r2.length ≤ (281474976710656 : Nat)) ∧ (d = D.fst.name ∧ (5 : Int) = D.fst.kind ∧ (0 : Int) = D.fst.ty.k ∧ (0 : Int) = D.fst.ty.l ∧ (0 : Int) = D.fst.ty.s ∧
  (0 : Int) = D.fst.n ∧ [] = D.fst.v ∧ [] = D.fst.base ∧ (0 : Int) = D.fst.off ∧ atoiN r2 = D.fst.tgt) ∧ natOk r2 = D.snd) ∧ (decide (c = [(76 : UInt8), (65 : UInt8), (66 : UInt8),
  (69 : UInt8), (76 : UInt8)]) = false → (decide (c = [(68 : UInt8), (68 : UInt8)]) = true → Ob (r2.length < (4294967281 : Nat)) ∧ Ob (e.length ≤ (10000 : Nat)) ∧ Ob (r3.length <
  (4294967281 : Nat)) ∧ Ob (r4.length ≤ (9223372036854775807 : Nat)) ∧ ((!T.snd || !hs) = true → (d = D.fst.name ∧ (0 : Int) = D.fst.kind ∧ T.fst.k = D.fst.ty.k ∧ T.fst.l =
  D.fst.ty.l ∧ T.fst.s = D.fst.ty.s ∧ (0 : Int) = D.fst.n ∧ [] = D.fst.v ∧ [] = D.fst.base ∧ (0 : Int) = D.fst.off ∧ (0 : Int) = D.fst.tgt) ∧ false = D.snd) ∧ ((!T.snd || !hs) =
  false → (decide (f = [(73 : UInt8), (78 : UInt8), (73 : UInt8), (84 : UInt8)]) = true → (decide (c = [(67 : UInt8), (79 : UInt8), (78 : UInt8)]) = true → Ob (aTy T.fst = aTy
  T.fst ∧ inn.length ≤ (10000 : Nat)) ∧ (d = D.fst.name ∧ (4 : Int) = D.fst.kind ∧ T.fst.k = D.fst.ty.k ∧ T.fst.l = D.fst.ty.l ∧ T.fst.s = D.fst.ty.s ∧ V.fst = D.fst.n ∧ V.snd.fst
  = D.fst.v ∧ [] = D.fst.base ∧ (0 : Int) = D.fst.off ∧ (0 : Int) = D.fst.tgt) ∧ V.snd.snd = D.snd) ∧ (decide (c = [(67 : UInt8), (79 : UInt8), (78 : UInt8)]) = false → Ob (aTy
  T.fst = aTy T.fst ∧ inn.length ≤ (10000 : Nat)) ∧ (d = D.fst.name ∧ (0 : Int) = D.fst.kind ∧ T.fst.k = D.fst.ty.k ∧ T.fst.l = D.fst.ty.l ∧ T.fst.s = D.fst.ty.s ∧ V.fst = D.fst.n
  ∧ V.snd.fst = D.fst.v ∧ [] = D.fst.base ∧ (0 : Int) = D.fst.off ∧ (0 : Int) = D.fst.tgt) ∧ V.snd.snd = D.snd)) ∧ (decide (f = [(73 : UInt8), (78 : UInt8), (73 : UInt8), (84 :
  UInt8)]) = false → Ob (inn.length < (4294967281 : Nat)) ∧ Ob (g2.length ≤ (281474976710656 : Nat)) ∧ (decide (f = [(68 : UInt8), (69 : UInt8), (70 : UInt8)]) = true → (d =
  D.fst.name ∧ (1 : Int) = D.fst.kind ∧ T.fst.k = D.fst.ty.k ∧ T.fst.l = D.fst.ty.l ∧ T.fst.s = D.fst.ty.s ∧ (0 : Int) = D.fst.n ∧ [] = D.fst.v ∧ g = D.fst.base ∧ atoiN g2 =
  D.fst.off ∧ (0 : Int) = D.fst.tgt) ∧ (bif bif bif natOk g2 then decide (c = [(68 : UInt8), (68 : UInt8)]) else false then !decide ((1 : Int) = (0 : Int)) else false then nm else
  false) = D.snd) ∧ (decide (f = [(68 : UInt8), (69 : UInt8), (70 : UInt8)]) = false → (decide (f = [(66 : UInt8), (65 : UInt8), (83 : UInt8)]) = true → (d = D.fst.name ∧ (2 : Int)
  = D.fst.kind ∧ T.fst.k = D.fst.ty.k ∧ T.fst.l = D.fst.ty.l ∧ T.fst.s = D.fst.ty.s ∧ (0 : Int) = D.fst.n ∧ [] = D.fst.v ∧ g = D.fst.base ∧ atoiN g2 = D.fst.off ∧ (0 : Int) =
  D.fst.tgt) ∧ (bif bif bif natOk g2 then decide (c = [(68 : UInt8), (68 : UInt8)]) else false then !decide ((2 : Int) = (0 : Int)) else false then nm else false) = D.snd) ∧
  (decide (f = [(66 : UInt8), (65 : UInt8), (83 : UInt8)]) = false → (d = D.fst.name ∧ (0 : Int) = D.fst.kind ∧ T.fst.k = D.fst.ty.k ∧ T.fst.l = D.fst.ty.l ∧ T.fst.s = D.fst.ty.s ∧
  (0 : Int) = D.fst.n ∧ [] = D.fst.v ∧ g = D.fst.base ∧ atoiN g2 = D.fst.off ∧ (0 : Int) = D.fst.tgt) ∧ (bif bif bif natOk g2 then decide (c = [(68 : UInt8), (68 : UInt8)]) else
  false then !decide ((0 : Int) = (0 : Int)) else false then nm else false) = D.snd))))) ∧ (decide (c = [(68 : UInt8), (68 : UInt8)]) = false → (decide (c = [(67 : UInt8), (79 :
  UInt8), (78 : UInt8)]) = true → Ob (r2.length < (4294967281 : Nat)) ∧ Ob (e.length ≤ (10000 : Nat)) ∧ Ob (r3.length < (4294967281 : Nat)) ∧ Ob (r4.length ≤ (9223372036854775807 :
  Nat)) ∧ ((!T.snd || !hs) = true → (d = D.fst.name ∧ (0 : Int) = D.fst.kind ∧ T.fst.k = D.fst.ty.k ∧ T.fst.l = D.fst.ty.l ∧ T.fst.s = D.fst.ty.s ∧ (0 : Int) = D.fst.n ∧ [] =
  D.fst.v ∧ [] = D.fst.base ∧ (0 : Int) = D.fst.off ∧ (0 : Int) = D.fst.tgt) ∧ false = D.snd) ∧ ((!T.snd || !hs) = false → (decide (f = [(73 : UInt8), (78 : UInt8), (73 : UInt8),
  (84 : UInt8)]) = true → (decide (c = [(67 : UInt8), (79 : UInt8), (78 : UInt8)]) = true → Ob (aTy T.fst = aTy T.fst ∧ inn.length ≤ (10000 : Nat)) ∧ (d = D.fst.name ∧ (4 : Int) =
  D.fst.kind ∧ T.fst.k = D.fst.ty.k ∧ T.fst.l = D.fst.ty.l ∧ T.fst.s = D.fst.ty.s ∧ V.fst = D.fst.n ∧ V.snd.fst = D.fst.v ∧ [] = D.fst.base ∧ (0 : Int) = D.fst.off ∧ (0 : Int) =
  D.fst.tgt) ∧ V.snd.snd = D.snd) ∧ (decide (c = [(67 : UInt8), (79 : UInt8), (78 : UInt8)]) = false → Ob (aTy T.fst = aTy T.fst ∧ inn.length ≤ (10000 : Nat)) ∧ (d = D.fst.name ∧
  (0 : Int) = D.fst.kind ∧ T.fst.k = D.fst.ty.k ∧ T.fst.l = D.fst.ty.l ∧ T.fst.s = D.fst.ty.s ∧ V.fst = D.fst.n ∧ V.snd.fst = D.fst.v ∧ [] = D.fst.base ∧ (0 : Int) = D.fst.off ∧ (0
  : Int) = D.fst.tgt) ∧ V.snd.snd = D.snd)) ∧ (decide (f = [(73 : UInt8), (78 : UInt8), (73 : UInt8), (84 : UInt8)]) = false → Ob (inn.length < (4294967281 : Nat)) ∧ Ob (g2.length
  ≤ (281474976710656 : Nat)) ∧ (decide (f = [(68 : UInt8), (69 : UInt8), (70 : UInt8)]) = true → (d = D.fst.name ∧ (1 : Int) = D.fst.kind ∧ T.fst.k = D.fst.ty.k ∧ T.fst.l =
  D.fst.ty.l ∧ T.fst.s = D.fst.ty.s ∧ (0 : Int) = D.fst.n ∧ [] = D.fst.v ∧ g = D.fst.base ∧ atoiN g2 = D.fst.off ∧ (0 : Int) = D.fst.tgt) ∧ (bif bif bif natOk g2 then decide (c =
  [(68 : UInt8), (68 : UInt8)]) else false then !decide ((1 : Int) = (0 : Int)) else false then nm else false) = D.snd) ∧ (decide (f = [(68 : UInt8), (69 : UInt8), (70 : UInt8)]) =
  false → (decide (f = [(66 : UInt8), (65 : UInt8), (83 : UInt8)]) = true → (d = D.fst.name ∧ (2 : Int) = D.fst.kind ∧ T.fst.k = D.fst.ty.k ∧ T.fst.l = D.fst.ty.l ∧ T.fst.s =
  D.fst.ty.s ∧ (0 : Int) = D.fst.n ∧ [] = D.fst.v ∧ g = D.fst.base ∧ atoiN g2 = D.fst.off ∧ (0 : Int) = D.fst.tgt) ∧ (bif bif bif natOk g2 then decide (c = [(68 : UInt8), (68 :
  UInt8)]) else false then !decide ((2 : Int) = (0 : Int)) else false then nm else false) = D.snd) ∧ (decide (f = [(66 : UInt8), (65 : UInt8), (83 : UInt8)]) = false → (d =
  D.fst.name ∧ (0 : Int) = D.fst.kind ∧ T.fst.k = D.fst.ty.k ∧ T.fst.l = D.fst.ty.l ∧ T.fst.s = D.fst.ty.s ∧ (0 : Int) = D.fst.n ∧ [] = D.fst.v ∧ g = D.fst.base ∧ atoiN g2 =
  D.fst.off ∧ (0 : Int) = D.fst.tgt) ∧ (bif bif bif natOk g2 then decide (c = [(68 : UInt8), (68 : UInt8)]) else false then !decide ((0 : Int) = (0 : Int)) else false then nm else
  false) = D.snd))))) ∧ (decide (c = [(67 : UInt8), (79 : UInt8), (78 : UInt8)]) = false → (d = D.fst.name ∧ (0 : Int) = D.fst.kind ∧ (0 : Int) = D.fst.ty.k ∧ (0 : Int) =
  D.fst.ty.l ∧ (0 : Int) = D.fst.ty.s ∧ (0 : Int) = D.fst.n ∧ [] = D.fst.v ∧ [] = D.fst.base ∧ (0 : Int) = D.fst.off ∧ (0 : Int) = D.fst.tgt) ∧ false = D.snd)))))
theorem decl_key {s c r1 d r2 e r3 f r4 inn g g2 : Str} {b2 hs nm : Bool} {T : Ty × Bool} {V : Int × Str × Bool} {D : Opd × Bool}
    (l0 : s.length ≤ 10000) (l1 : r1.length ≤ 10000) (l2 : r2.length ≤ 10000) (l3 : e.length ≤ 10000) (l4 : r3.length ≤ 10000) (l5 : r4.length ≤ 10000) (l6 : inn.length ≤ 10000) (l7 : g2.length ≤ 10000)
    (hD : D = if c = [80, 84, 82] then ({ opd0 with name := d, kind := 3 }, !b2) else if c = [76, 65, 66, 69, 76] then ({ opd0 with name := d, kind := 5, tgt := atoiN r2 }, natOk r2)
      else if c ≠ [68, 68] ∧ c ≠ [67, 79, 78] then ({ opd0 with name := d }, false) else if T.2 = false ∨ hs = false then ({ opd0 with name := d, ty := T.1 }, false)
      else if f = [73, 78, 73, 84] then ({ opd0 with name := d, ty := T.1, kind := if c = [67, 79, 78] then 4 else 0, n := V.1, v := V.2.1 }, V.2.2)
      else ({ opd0 with name := d, ty := T.1, base := g, off := atoiN g2, kind := if f = [68, 69, 70] then 1 else if f = [66, 65, 83] then 2 else 0 }, natOk g2 && decide (c = [68, 68]) && decide ((if f = [68, 69, 70] then (1 : Int) else if f = [66, 65, 83] then 2 else 0) ≠ 0) && nm)) :
    DeclP s c r1 d r2 e r3 f r4 inn g g2 b2 hs nm T V D := by
  unfold DeclP
  have k0 : ∀ k : Int, (!decide (k = 0)) = decide (k ≠ 0) := fun k => by simp
  simp only [Ob_iff, band_c, Bool.or_eq_true, Bool.or_eq_false_iff, Bool.not_eq_true', Bool.not_eq_false', decide_eq_true_eq, decide_eq_false_iff_not, true_and, k0]
  refine ⟨by omega, by omega, fun h1 => ?_, fun h1 => ⟨fun h2 => ?_, fun h2 => ⟨fun h3 => ?_, fun h3 => ⟨fun h4 => ?_, fun h4 => ?_⟩⟩⟩⟩
  · rw [if_pos h1] at hD
    subst hD
    exact ⟨⟨rfl, rfl, rfl, rfl, rfl, rfl, rfl, rfl, rfl, rfl⟩, rfl⟩
  · rw [if_neg h1, if_pos h2] at hD
    subst hD
    exact ⟨by omega, ⟨rfl, rfl, rfl, rfl, rfl, rfl, rfl, rfl, rfl, rfl⟩, rfl⟩
  · rw [if_neg h1, if_neg h2, if_neg (by simp [h3])] at hD
    · refine ⟨by omega, by omega, by omega, by omega, fun k1 => ?_, fun k1 => ⟨fun k2 => ?_, fun k2 => ⟨by omega, by omega, fun k3 => ?_, fun k3 => ⟨fun k4 => ?_, fun k4 => ?_⟩⟩⟩⟩
      · rw [if_pos k1] at hD
        subst hD
        exact ⟨⟨rfl, rfl, rfl, rfl, rfl, rfl, rfl, rfl, rfl, rfl⟩, rfl⟩
      · rw [if_neg (by simp [k1]), if_pos k2] at hD
        subst hD
        refine ⟨fun k3 => ?_, fun k3 => ?_⟩
        · exact ⟨by omega, ⟨rfl, (if_pos k3).symm, rfl, rfl, rfl, rfl, rfl, rfl, rfl, rfl⟩, rfl⟩
        · exact ⟨by omega, ⟨rfl, (if_neg k3).symm, rfl, rfl, rfl, rfl, rfl, rfl, rfl, rfl⟩, rfl⟩
      · rw [if_neg (by simp [k1]), if_neg k2, if_pos k3] at hD
        subst hD
        exact ⟨⟨rfl, rfl, rfl, rfl, rfl, rfl, rfl, rfl, rfl, rfl⟩, rfl⟩
      · rw [if_neg (by simp [k1]), if_neg k2, if_neg k3, if_pos k4] at hD
        subst hD
        exact ⟨⟨rfl, rfl, rfl, rfl, rfl, rfl, rfl, rfl, rfl, rfl⟩, rfl⟩
      · rw [if_neg (by simp [k1]), if_neg k2, if_neg k3, if_neg k4] at hD
        subst hD
        exact ⟨⟨rfl, rfl, rfl, rfl, rfl, rfl, rfl, rfl, rfl, rfl⟩, rfl⟩
  · rw [if_neg h1, if_neg h2, if_neg (by simp [h4])] at hD
    · refine ⟨by omega, by omega, by omega, by omega, fun k1 => ?_, fun k1 => ⟨fun k2 => ?_, fun k2 => ⟨by omega, by omega, fun k3 => ?_, fun k3 => ⟨fun k4 => ?_, fun k4 => ?_⟩⟩⟩⟩
      · rw [if_pos k1] at hD
        subst hD
        exact ⟨⟨rfl, rfl, rfl, rfl, rfl, rfl, rfl, rfl, rfl, rfl⟩, rfl⟩
      · rw [if_neg (by simp [k1]), if_pos k2] at hD
        subst hD
        refine ⟨fun k3 => ?_, fun k3 => ?_⟩
        · exact ⟨by omega, ⟨rfl, (if_pos k3).symm, rfl, rfl, rfl, rfl, rfl, rfl, rfl, rfl⟩, rfl⟩
        · exact ⟨by omega, ⟨rfl, (if_neg k3).symm, rfl, rfl, rfl, rfl, rfl, rfl, rfl, rfl⟩, rfl⟩
      · rw [if_neg (by simp [k1]), if_neg k2, if_pos k3] at hD
        subst hD
        exact ⟨⟨rfl, rfl, rfl, rfl, rfl, rfl, rfl, rfl, rfl, rfl⟩, rfl⟩
      · rw [if_neg (by simp [k1]), if_neg k2, if_neg k3, if_pos k4] at hD
        subst hD
        exact ⟨⟨rfl, rfl, rfl, rfl, rfl, rfl, rfl, rfl, rfl, rfl⟩, rfl⟩
      · rw [if_neg (by simp [k1]), if_neg k2, if_neg k3, if_neg k4] at hD
        subst hD
        exact ⟨⟨rfl, rfl, rfl, rfl, rfl, rfl, rfl, rfl, rfl, rfl⟩, rfl⟩
  · rw [if_neg h1, if_neg h2, if_pos ⟨h3, h4⟩] at hD
    subst hD
    exact ⟨⟨rfl, rfl, rfl, rfl, rfl, rfl, rfl, rfl, rfl, rfl⟩, rfl⟩
theorem ok43 : Ok m 43 Cdeclared := fn_ok2 (cons_cons ok23 (cons_cons ok46 (cons_cons ok78 (cons_cons ok79 (cons_cons ok80 (cons_cons ok44 cons_nil)))))) Tryz.func43 (by kernel_rfl) fun xs r hr hp => by
  unfold Cdeclared at hr
  split at hr
  · rename_i s
    obtain ⟨hs, hr⟩ := Tr.run_need hr
    obtain rfl := Tr.run_ret hr
    clear hr hp
    refine ⟨_, [], args_self _, of_nice (DeclP s (Lib.cut s [32]).1 (Lib.cut s [32]).2.1 (Lib.cut (Lib.cut s [32]).2.1 [32]).1 (Lib.cut (Lib.cut s [32]).2.1 [32]).2.1 (Lib.cut (Lib.cut (Lib.cut s [32]).2.1 [32]).2.1 [32]).1 (Lib.cut (Lib.cut (Lib.cut s [32]).2.1 [32]).2.1 [32]).2.1 (Lib.cut (Lib.cut (Lib.cut (Lib.cut s [32]).2.1 [32]).2.1 [32]).2.1 [40]).1 (Lib.cut (Lib.cut (Lib.cut (Lib.cut s [32]).2.1 [32]).2.1 [32]).2.1 [40]).2.1 (Lib.trimSuffix (Lib.cut (Lib.cut (Lib.cut (Lib.cut s [32]).2.1 [32]).2.1 [32]).2.1 [40]).2.1 [41]) (Lib.cut (Lib.trimSuffix (Lib.cut (Lib.cut (Lib.cut (Lib.cut s [32]).2.1 [32]).2.1 [32]).2.1 [40]).2.1 [41]) [44]).1 (Lib.cut (Lib.trimSuffix (Lib.cut (Lib.cut (Lib.cut (Lib.cut s [32]).2.1 [32]).2.1 [32]).2.1 [40]).2.1 [41]) [44]).2.1 (Lib.cut (Lib.cut s [32]).2.1 [32]).2.2 (Lib.hasSuffix (Lib.cut (Lib.cut (Lib.cut (Lib.cut s [32]).2.1 [32]).2.1 [32]).2.1 [40]).2.1 [41]) (isName (Lib.cut (Lib.trimSuffix (Lib.cut (Lib.cut (Lib.cut (Lib.cut s [32]).2.1 [32]).2.1 [32]).2.1 [40]).2.1 [41]) [44]).1) (Tx.typeOf (Lib.cut (Lib.cut (Lib.cut s [32]).2.1 [32]).2.1 [32]).1) (valueOf (Tx.typeOf (Lib.cut (Lib.cut (Lib.cut s [32]).2.1 [32]).2.1 [32]).1).1 (Lib.trimSuffix (Lib.cut (Lib.cut (Lib.cut (Lib.cut s [32]).2.1 [32]).2.1 [32]).2.1 [40]).2.1 [41])) (declared s)) (by kernel_rfl) ?_⟩
    have l1 := cut_le s [32]
    have l2 := cut_le (Lib.cut s [32]).2.1 [32]
    have l3 := cut_le (Lib.cut (Lib.cut s [32]).2.1 [32]).2.1 [32]
    have l4 := cut_le (Lib.cut (Lib.cut (Lib.cut s [32]).2.1 [32]).2.1 [32]).2.1 [40]
    have l5 := trimSuffix_le (Lib.cut (Lib.cut (Lib.cut (Lib.cut s [32]).2.1 [32]).2.1 [32]).2.1 [40]).2.1 [41]
    have l6 := cut_le (Lib.trimSuffix (Lib.cut (Lib.cut (Lib.cut (Lib.cut s [32]).2.1 [32]).2.1 [32]).2.1 [40]).2.1 [41]) [44]
    exact decl_key hs (by omega) (by omega) (by omega) (by omega) (by omega) (by omega) (by omega) rfl
  · exact (Tr.run_fail hr).elim
end Go.Proofs.YtgcnbicoajjlaaaGreatDoor
end
section
set_option linter.unusedVariables false
set_option linter.unusedSimpArgs false
set_option maxRecDepth 100000
namespace Go.Proofs.YtgcnbicoajjlaaaGreatDoor
open Go Go.Eng Go.Tx
variable {m : Int}
theorem hex_hi : ∀ n, n < 256 → ((n : Nat) : Int).fdiv ((2 : Int) ^ min (Int.toNat (4 : Int)) IntKind.u8.bits) = ((n / 16 : Nat) : Int) := by decide
theorem hex_lo : ∀ n, n < 256 → IntKind.u8.wrap (((BitVec.ofInt IntKind.u8.bits ((n : Nat) : Int) &&& BitVec.ofInt IntKind.u8.bits (15 : Int)).toNat : Nat) : Int) = ((n % 16 : Nat) : Int) := by decide
theorem getD_at {s : Str} {i : Nat} (h : i < s.length) : s.getD i 0 = s[i] := by
  rw [List.getD_eq_getElem?_getD, List.getElem?_eq_getElem h]; rfl
theorem hexText_cons (c : UInt8) (s : Str) : hexText (c :: s) = [hexds.getD (c.toNat / 16) 0, hexds.getD (c.toNat % 16) 0] ++ hexText s := List.flatMap_cons
theorem hexText_step {v : Str} {i : Nat} (h : i < v.length) : hexText (v.take (i + 1)) = hexText (v.take i) ++ [hexds.getD ((v.getD i 0).toNat / 16) 0, hexds.getD ((v.getD i 0).toNat % 16) 0] := by
  unfold hexText
  rw [List.take_succ_eq_append_getElem h, List.flatMap_append, getD_at h]
  rfl
theorem hexText_len : ∀ v : Str, (hexText v).length = 2 * v.length
  | [] => rfl
  | c :: v => by
    rw [hexText_cons, List.length_append, hexText_len v, List.length_cons, List.length_cons, List.length_cons, List.length_nil]
    omega
theorem subst_len (c : UInt8) (a b : UInt8) : ∀ s : Str, (subst c [a, b] s).length ≤ 2 * s.length
  | [] => by simp [subst]
  | x :: s => by
    have ih := subst_len c a b s
    have e : subst c [a, b] (x :: s) = (if x = c then [a, b] else [x]) ++ subst c [a, b] s := List.flatMap_cons
    rw [e, List.length_append, List.length_cons]
    split <;> simp only [List.length_cons, List.length_nil] <;> omega
noncomputable def peel (n : Nat) : Eng.Inv := ⟨Unit, fun _ => [], fun _ => [], fun _ => n⟩
noncomputable def inv33 (t : Ty) (n : Int) (v : Str) : Eng.Inv :=
  ⟨{ j : Nat // j ≤ v.length }, fun j => [(2, .ptr 2 0), (3, .ptr 3 0), (7, .row 60), (35, slBytes v), (36, I v.length), (37, I j.1)], fun j => [(2, .box [.int .i64 t.k, .int .i64 t.l, .int .i64 t.s] false), (3, .box [.int .i64 n, .str v] false), (60, .row 5 1 (([88, 39] ++ hexText (v.take j.1)).map cByte) false)], fun j => v.length - j.1⟩
def valWr (t : Ty) (n : Int) (v : Str) : Prop := (t.k ≠ 0 → numberOk n t.s = true) ∧ v.length ≤ 10000
theorem numText_len {n s : Int} : (numText n s).length ≤ 40 := by
  unfold numText
  split
  · rename_i h
    simp only [numberOk, decide_eq_true_eq] at h
    have hd := itoa_len (n := max n (-n)) (by omega) (by omega)
    generalize Lib.itoa (max n (-n)) = d at *
    have hp : (padded d s.toNat).length ≤ 20 := by
      unfold padded
      split
      · simp; omega
      · exact hd
    generalize padded d s.toNat = p at *
    unfold pointed
    split <;> split <;> simp <;> omega
  · simp
theorem valueText_len {t : Ty} {n : Int} {v : Str} (h : valWr t n v) : (valueText t n v).length ≤ 20100 := by
  have h2 := h.2
  unfold valueText
  split
  · have := numText_len (n := n) (s := t.s); omega
  · split
    · rw [replaceAll_one (by decide)]
      have := subst_len 39 39 39 v
      simp only [List.length_append, List.length_cons, List.length_nil]
      omega
    · have := hexText_len v
      simp only [List.length_append, List.length_cons, List.length_nil]
      omega
noncomputable def CvalueText : Con
  | [v, x] => .need (v = aTy (tyOf v) ∧ x = aVal (vN x) (vS x) ∧ valWr (tyOf v) (vN x) (vS x)) (.ret (.str (valueText (tyOf v) (vN x) (vS x))))
  | _ => .fail
theorem ok33 : Ok m 33 CvalueText := fn_ok2 (cons_cons ok67 (cons_cons ok68 (cons_cons ok69 cons_nil))) Tryz.func33 (by kernel_rfl) fun xs r hr hp => by
  unfold CvalueText at hr
  split at hr
  · rename_i x y
    obtain ⟨⟨hv, hx, hw⟩, hr⟩ := Tr.run_need hr
    obtain rfl := Tr.run_ret hr
    generalize tyOf x = t at *
    generalize vN y = n at *
    generalize vS y = v at *
    subst hv
    subst hx
    clear hr hp
    refine ⟨_, [(0, inv33 t n v), (500, peel (v.length + 1))], args_self _, of_nice (((!decide (t.k = (0 : Int))) = true → Ob (numberOk n t.s = true) ∧ numText n t.s = valueText t n v) ∧ ((!decide (t.k = (0 : Int))) = false → Ob (List.length v ≤ (1048576 : Nat))
  ∧ (isShown v = true → Ob (List.length v < (4294967281 : Nat) ∧ (1 : Nat) ≤ [(39 : UInt8)].length ∧ List.length v + Lib.countB { data := List.toArray v } { data := #[(39 :
  UInt8)] } * [(39 : UInt8), (39 : UInt8)].length ≤ (140737488355328 : Nat)) ∧ Ob ([(39 : UInt8)].length + (Lib.replaceAll v [(39 : UInt8)] [(39 : UInt8), (39 : UInt8)]).length ≤
  (9223372036854775807 : Nat)) ∧ Ob (([(39 : UInt8)] ++ Lib.replaceAll v [(39 : UInt8)] [(39 : UInt8), (39 : UInt8)]).length + [(39 : UInt8)].length ≤ (9223372036854775807 :
  Nat)) ∧ [(39 : UInt8)] ++ Lib.replaceAll v [(39 : UInt8)] [(39 : UInt8), (39 : UInt8)] ++ [(39 : UInt8)] = valueText t n v) ∧ (isShown v = false → Ob (List.length v ≤ (1048576
  : Nat)) ∧ (∃ (j : (peel (List.length v + (1 : Nat))).ι), (decide ((0 : Int) < (↑(List.length v) : Int)) = true → Ob ((0 : Int) ≤ (0 : Int) ∧ (0 : Int) < (↑(List.length v) :
  Int)) ∧ Ob ((0 : Int) ≤ (4 : Int)) ∧ Ob ((0 : Int) ≤ (↑(List.getD v (Int.toNat (0 : Int)) (0 : UInt8)).toNat : Int).fdiv ((2 : Int) ^ min (Int.toNat (4 : Int)) IntKind.u8.bits)
  ∧ (↑(List.getD v (Int.toNat (0 : Int)) (0 : UInt8)).toNat : Int).fdiv ((2 : Int) ^ min (Int.toNat (4 : Int)) IntKind.u8.bits) < (↑[(48 : UInt8), (49 : UInt8), (50 : UInt8), (51
  : UInt8), (52 : UInt8), (53 : UInt8), (54 : UInt8), (55 : UInt8), (56 : UInt8), (57 : UInt8), (65 : UInt8), (66 : UInt8), (67 : UInt8), (68 : UInt8), (69 : UInt8), (70 :
  UInt8)].length : Int)) ∧ Ob ((0 : Int) ≤ IntKind.u8.wrap (↑(BitVec.ofInt IntKind.u8.bits (↑(List.getD v (Int.toNat (0 : Int)) (0 : UInt8)).toNat : Int) &&& BitVec.ofInt
  IntKind.u8.bits (15 : Int)).toNat : Int) ∧ IntKind.u8.wrap (↑(BitVec.ofInt IntKind.u8.bits (↑(List.getD v (Int.toNat (0 : Int)) (0 : UInt8)).toNat : Int) &&& BitVec.ofInt
  IntKind.u8.bits (15 : Int)).toNat : Int) < (↑[(48 : UInt8), (49 : UInt8), (50 : UInt8), (51 : UInt8), (52 : UInt8), (53 : UInt8), (54 : UInt8), (55 : UInt8), (56 : UInt8), (57
  : UInt8), (65 : UInt8), (66 : UInt8), (67 : UInt8), (68 : UInt8), (69 : UInt8), (70 : UInt8)].length : Int)) ∧ Ob ((0 : Nat) < (List.map (fun (c : AV) => [c]) [AV.int
  IntKind.u8 (↑([(48 : UInt8), (49 : UInt8), (50 : UInt8), (51 : UInt8), (52 : UInt8), (53 : UInt8), (54 : UInt8), (55 : UInt8), (56 : UInt8), (57 : UInt8), (65 : UInt8), (66 :
  UInt8), (67 : UInt8), (68 : UInt8), (69 : UInt8), (70 : UInt8)].getD ((↑(List.getD v (Int.toNat (0 : Int)) (0 : UInt8)).toNat : Int).fdiv ((2 : Int) ^ min (Int.toNat (4 : Int))
  IntKind.u8.bits)).toNat (0 : UInt8)).toNat : Int), AV.int IntKind.u8 (↑([(48 : UInt8), (49 : UInt8), (50 : UInt8), (51 : UInt8), (52 : UInt8), (53 : UInt8), (54 : UInt8), (55 :
  UInt8), (56 : UInt8), (57 : UInt8), (65 : UInt8), (66 : UInt8), (67 : UInt8), (68 : UInt8), (69 : UInt8), (70 : UInt8)].getD (IntKind.u8.wrap (↑(BitVec.ofInt IntKind.u8.bits
  (↑(List.getD v (Int.toNat (0 : Int)) (0 : UInt8)).toNat : Int) &&& BitVec.ofInt IntKind.u8.bits (15 : Int)).toNat : Int)).toNat (0 : UInt8)).toNat : Int)]).length ∧ (List.map
  (fun (c : AV) => [c]) [AV.int IntKind.u8 (88 : Int), AV.int IntKind.u8 (39 : Int)]).length + (List.map (fun (c : AV) => [c]) [AV.int IntKind.u8 (↑([(48 : UInt8), (49 : UInt8),
  (50 : UInt8), (51 : UInt8), (52 : UInt8), (53 : UInt8), (54 : UInt8), (55 : UInt8), (56 : UInt8), (57 : UInt8), (65 : UInt8), (66 : UInt8), (67 : UInt8), (68 : UInt8), (69 :
  UInt8), (70 : UInt8)].getD ((↑(List.getD v (Int.toNat (0 : Int)) (0 : UInt8)).toNat : Int).fdiv ((2 : Int) ^ min (Int.toNat (4 : Int)) IntKind.u8.bits)).toNat (0 :
  UInt8)).toNat : Int), AV.int IntKind.u8 (↑([(48 : UInt8), (49 : UInt8), (50 : UInt8), (51 : UInt8), (52 : UInt8), (53 : UInt8), (54 : UInt8), (55 : UInt8), (56 : UInt8), (57 :
  UInt8), (65 : UInt8), (66 : UInt8), (67 : UInt8), (68 : UInt8), (69 : UInt8), (70 : UInt8)].getD (IntKind.u8.wrap (↑(BitVec.ofInt IntKind.u8.bits (↑(List.getD v (Int.toNat (0 :
  Int)) (0 : UInt8)).toNat : Int) &&& BitVec.ofInt IntKind.u8.bits (15 : Int)).toNat : Int)).toNat (0 : UInt8)).toNat : Int)]).length ≤ (1048576 : Nat)) ∧ Ob (inI64 ((0 : Int) +
  (1 : Int))) ∧ ∃ (j_1 : { j : Nat // j ≤ List.length v }), (List.length v - j_1.val).succ.le ((peel (List.length v + (1 : Nat))).μ j) ∧ True ∧ True ∧ True ∧ (List.length v =
  List.length v ∧ ∀ (i : Nat), i < List.length v → strSl v i = strSl v i) ∧ (↑(List.length v) : Int) = (↑(List.length v) : Int) ∧ (0 : Int) + (1 : Int) = (↑j_1.val : Int) ∧ (t.k
  = t.k ∧ t.l = t.l ∧ t.s = t.s) ∧ (n = n ∧ v = v) ∧ (elsOf (List.map (fun (c : AV) => [c]) [AV.int IntKind.u8 (88 : Int), AV.int IntKind.u8 (39 : Int)]).length fun (i : Nat) =>
  (List.map (fun (c : AV) => [c]) [AV.int IntKind.u8 (88 : Int), AV.int IntKind.u8 (39 : Int)]).getD i []) ++ List.map (fun (c : AV) => [c]) [AV.int IntKind.u8 (↑([(48 : UInt8),
  (49 : UInt8), (50 : UInt8), (51 : UInt8), (52 : UInt8), (53 : UInt8), (54 : UInt8), (55 : UInt8), (56 : UInt8), (57 : UInt8), (65 : UInt8), (66 : UInt8), (67 : UInt8), (68 :
  UInt8), (69 : UInt8), (70 : UInt8)].getD ((↑(List.getD v (Int.toNat (0 : Int)) (0 : UInt8)).toNat : Int).fdiv ((2 : Int) ^ min (Int.toNat (4 : Int)) IntKind.u8.bits)).toNat (0
  : UInt8)).toNat : Int), AV.int IntKind.u8 (↑([(48 : UInt8), (49 : UInt8), (50 : UInt8), (51 : UInt8), (52 : UInt8), (53 : UInt8), (54 : UInt8), (55 : UInt8), (56 : UInt8), (57
  : UInt8), (65 : UInt8), (66 : UInt8), (67 : UInt8), (68 : UInt8), (69 : UInt8), (70 : UInt8)].getD (IntKind.u8.wrap (↑(BitVec.ofInt IntKind.u8.bits (↑(List.getD v (Int.toNat (0
  : Int)) (0 : UInt8)).toNat : Int) &&& BitVec.ofInt IntKind.u8.bits (15 : Int)).toNat : Int)).toNat (0 : UInt8)).toNat : Int)] = List.map cByte ([(88 : UInt8), (39 : UInt8)] ++
  hexText (List.take j_1.val v)) ∧ True) ∧ (decide ((0 : Int) < (↑(List.length v) : Int)) = false → Ob ((0 : Nat) < (List.map (fun (c : AV) => [c]) [AV.int IntKind.u8 (39 :
  Int)]).length ∧ (List.map (fun (c : AV) => [c]) [AV.int IntKind.u8 (88 : Int), AV.int IntKind.u8 (39 : Int)]).length + (List.map (fun (c : AV) => [c]) [AV.int IntKind.u8 (39 :
  Int)]).length ≤ (1048576 : Nat)) ∧ Ob (∀ (x : List AV), x ∈ (elsOf (List.map (fun (c : AV) => [c]) [AV.int IntKind.u8 (88 : Int), AV.int IntKind.u8 (39 : Int)]).length fun (i :
  Nat) => (List.map (fun (c : AV) => [c]) [AV.int IntKind.u8 (88 : Int), AV.int IntKind.u8 (39 : Int)]).getD i []) ++ List.map (fun (c : AV) => [c]) [AV.int IntKind.u8 (39 :
  Int)] → isByte x) ∧ bytesV ((elsOf (List.map (fun (c : AV) => [c]) [AV.int IntKind.u8 (88 : Int), AV.int IntKind.u8 (39 : Int)]).length fun (i : Nat) => (List.map (fun (c : AV)
  => [c]) [AV.int IntKind.u8 (88 : Int), AV.int IntKind.u8 (39 : Int)]).getD i []) ++ List.map (fun (c : AV) => [c]) [AV.int IntKind.u8 (39 : Int)]) = valueText t n v)) ∧ ∀ (i :
  { j : Nat // j ≤ List.length v }), (decide ((↑i.val : Int) < (↑(List.length v) : Int)) = true → Ob ((0 : Int) ≤ (↑i.val : Int) ∧ (↑i.val : Int) < (↑(List.length v) : Int)) ∧ Ob
  ((0 : Int) ≤ (4 : Int)) ∧ Ob ((0 : Int) ≤ (↑(List.getD v i.val (0 : UInt8)).toNat : Int).fdiv ((2 : Int) ^ min (Int.toNat (4 : Int)) IntKind.u8.bits) ∧ (↑(List.getD v i.val (0
  : UInt8)).toNat : Int).fdiv ((2 : Int) ^ min (Int.toNat (4 : Int)) IntKind.u8.bits) < (↑[(48 : UInt8), (49 : UInt8), (50 : UInt8), (51 : UInt8), (52 : UInt8), (53 : UInt8), (54
  : UInt8), (55 : UInt8), (56 : UInt8), (57 : UInt8), (65 : UInt8), (66 : UInt8), (67 : UInt8), (68 : UInt8), (69 : UInt8), (70 : UInt8)].length : Int)) ∧ Ob ((0 : Int) ≤
  IntKind.u8.wrap (↑(BitVec.ofInt IntKind.u8.bits (↑(List.getD v i.val (0 : UInt8)).toNat : Int) &&& BitVec.ofInt IntKind.u8.bits (15 : Int)).toNat : Int) ∧ IntKind.u8.wrap
  (↑(BitVec.ofInt IntKind.u8.bits (↑(List.getD v i.val (0 : UInt8)).toNat : Int) &&& BitVec.ofInt IntKind.u8.bits (15 : Int)).toNat : Int) < (↑[(48 : UInt8), (49 : UInt8), (50 :
  UInt8), (51 : UInt8), (52 : UInt8), (53 : UInt8), (54 : UInt8), (55 : UInt8), (56 : UInt8), (57 : UInt8), (65 : UInt8), (66 : UInt8), (67 : UInt8), (68 : UInt8), (69 : UInt8),
  (70 : UInt8)].length : Int)) ∧ Ob ((List.map cByte ([(88 : UInt8), (39 : UInt8)] ++ hexText (List.take i.val v))).length + (List.map (fun (c : AV) => [c]) [AV.int IntKind.u8
  (↑([(48 : UInt8), (49 : UInt8), (50 : UInt8), (51 : UInt8), (52 : UInt8), (53 : UInt8), (54 : UInt8), (55 : UInt8), (56 : UInt8), (57 : UInt8), (65 : UInt8), (66 : UInt8), (67
  : UInt8), (68 : UInt8), (69 : UInt8), (70 : UInt8)].getD ((↑(List.getD v i.val (0 : UInt8)).toNat : Int).fdiv ((2 : Int) ^ min (Int.toNat (4 : Int)) IntKind.u8.bits)).toNat (0
  : UInt8)).toNat : Int), AV.int IntKind.u8 (↑([(48 : UInt8), (49 : UInt8), (50 : UInt8), (51 : UInt8), (52 : UInt8), (53 : UInt8), (54 : UInt8), (55 : UInt8), (56 : UInt8), (57
  : UInt8), (65 : UInt8), (66 : UInt8), (67 : UInt8), (68 : UInt8), (69 : UInt8), (70 : UInt8)].getD (IntKind.u8.wrap (↑(BitVec.ofInt IntKind.u8.bits (↑(List.getD v i.val (0 :
  UInt8)).toNat : Int) &&& BitVec.ofInt IntKind.u8.bits (15 : Int)).toNat : Int)).toNat (0 : UInt8)).toNat : Int)]).length ≤ (1048576 : Nat)) ∧ Ob (inI64 ((↑i.val : Int) + (1 :
  Int))) ∧ ∃ (j : { j : Nat // j ≤ List.length v }), (List.length v - j.val).succ.le (List.length v - i.val) ∧ True ∧ True ∧ True ∧ (List.length v = List.length v ∧ ∀ (i : Nat),
  i < List.length v → strSl v i = strSl v i) ∧ (↑(List.length v) : Int) = (↑(List.length v) : Int) ∧ (↑i.val : Int) + (1 : Int) = (↑j.val : Int) ∧ (t.k = t.k ∧ t.l = t.l ∧ t.s =
  t.s) ∧ (n = n ∧ v = v) ∧ List.map cByte ([(88 : UInt8), (39 : UInt8)] ++ hexText (List.take i.val v)) ++ List.map (fun (c : AV) => [c]) [AV.int IntKind.u8 (↑([(48 : UInt8), (49
  : UInt8), (50 : UInt8), (51 : UInt8), (52 : UInt8), (53 : UInt8), (54 : UInt8), (55 : UInt8), (56 : UInt8), (57 : UInt8), (65 : UInt8), (66 : UInt8), (67 : UInt8), (68 :
  UInt8), (69 : UInt8), (70 : UInt8)].getD ((↑(List.getD v i.val (0 : UInt8)).toNat : Int).fdiv ((2 : Int) ^ min (Int.toNat (4 : Int)) IntKind.u8.bits)).toNat (0 : UInt8)).toNat
  : Int), AV.int IntKind.u8 (↑([(48 : UInt8), (49 : UInt8), (50 : UInt8), (51 : UInt8), (52 : UInt8), (53 : UInt8), (54 : UInt8), (55 : UInt8), (56 : UInt8), (57 : UInt8), (65 :
  UInt8), (66 : UInt8), (67 : UInt8), (68 : UInt8), (69 : UInt8), (70 : UInt8)].getD (IntKind.u8.wrap (↑(BitVec.ofInt IntKind.u8.bits (↑(List.getD v i.val (0 : UInt8)).toNat :
  Int) &&& BitVec.ofInt IntKind.u8.bits (15 : Int)).toNat : Int)).toNat (0 : UInt8)).toNat : Int)] = List.map cByte ([(88 : UInt8), (39 : UInt8)] ++ hexText (List.take j.val v))
  ∧ True) ∧ (decide ((↑i.val : Int) < (↑(List.length v) : Int)) = false → Ob ((List.map cByte ([(88 : UInt8), (39 : UInt8)] ++ hexText (List.take i.val v))).length + (List.map
  (fun (c : AV) => [c]) [AV.int IntKind.u8 (39 : Int)]).length ≤ (1048576 : Nat)) ∧ Ob (∀ (x : List AV), x ∈ List.map cByte ([(88 : UInt8), (39 : UInt8)] ++ hexText (List.take
  i.val v)) ++ List.map (fun (c : AV) => [c]) [AV.int IntKind.u8 (39 : Int)] → isByte x) ∧ bytesV (List.map cByte ([(88 : UInt8), (39 : UInt8)] ++ hexText (List.take i.val v)) ++
  List.map (fun (c : AV) => [c]) [AV.int IntKind.u8 (39 : Int)]) = valueText t n v)))) (by kernel_rfl) ?_⟩
    have hvl := hw.2
    have hc : Lib.countB ⟨v.toArray⟩ ⟨#[39]⟩ ≤ v.length := by
      have := Lib.countB_le ⟨#[39]⟩ (by decide) _ ⟨v.toArray⟩ (Nat.le_refl _)
      simpa [ByteArray.size] using this
    have hl := subst_len 39 39 39 v
    have e0 : (elsOf (List.map (fun (c : AV) => [c]) [AV.int IntKind.u8 88, AV.int IntKind.u8 39]).length fun (i : Nat) => (List.map (fun (c : AV) => [c]) [AV.int IntKind.u8 88, AV.int IntKind.u8 39]).getD i []) = List.map cByte ([88, 39] ++ hexText (v.take 0)) := rfl
    have e1 : ∀ w : Str, List.map cByte ([88, 39] ++ w) ++ List.map (fun (c : AV) => [c]) [AV.int IntKind.u8 39] = ([88, 39] ++ w ++ [39]).map cByte := fun w => by rw [List.map_append (l₂ := [39])]; rfl
    have e2 : ∀ i, i < v.length → List.map cByte ([88, 39] ++ hexText (v.take i)) ++ List.map (fun (c : AV) => [c]) [AV.int IntKind.u8 ((([48, 49, 50, 51, 52, 53, 54, 55, 56, 57, 65, 66, 67, 68, 69, 70] : Str).getD ((v.getD i 0).toNat / 16) 0).toNat : Int), AV.int IntKind.u8 ((([48, 49, 50, 51, 52, 53, 54, 55, 56, 57, 65, 66, 67, 68, 69, 70] : Str).getD ((v.getD i 0).toNat % 16) 0).toNat : Int)] = List.map cByte ([88, 39] ++ hexText (v.take (i + 1))) := fun i hi => by
      rw [hexText_step hi, ← List.append_assoc, List.map_append (l₂ := [_, _])]
      rfl
    have h16 : (([48, 49, 50, 51, 52, 53, 54, 55, 56, 57, 65, 66, 67, 68, 69, 70] : Str).length : Int) = 16 := rfl
    refine And.intro (fun h => ?_) (fun h => And.intro ⟨by omega⟩ (And.intro (fun h2 => ?_) (fun h2 => And.intro ⟨by omega⟩ (And.intro ⟨(), ?_⟩ ?_))))
    · simp only [Bool.not_eq_true', decide_eq_false_iff_not] at h
      refine ⟨⟨hw.1 h⟩, ?_⟩
      unfold valueText
      rw [if_pos h]
    · simp only [Bool.not_eq_false', decide_eq_true_eq] at h
      have e := replaceAll_one (c := 39) (new := [39, 39]) (s := v) (by decide)
      simp only [Ob_iff, List.length_append, List.length_cons, List.length_nil]
      refine ⟨⟨by omega, by omega, by omega⟩, by rw [e]; omega, by rw [e]; omega, ?_⟩
      unfold valueText
      rw [if_neg (by simpa using h), if_pos h2]
    · simp only [Bool.not_eq_false', decide_eq_true_eq] at h
      rw [e0, show Int.toNat 0 = 0 from rfl]
      refine And.intro (fun h3 => ?_) (fun h3 => ?_)
      · simp only [decide_eq_true_eq] at h3
        have h4 : 0 < v.length := by omega
        have hb := (v.getD 0 0).toNat_lt
        rw [hex_hi _ (by omega), hex_lo _ (by omega), Int.toNat_natCast, Int.toNat_natCast, e2 0 h4]
        simp only [Ob_iff, inI64, h16, List.length_map, List.length_cons, List.length_nil]
        refine And.intro (by omega) (And.intro (by omega) (And.intro (by omega) (And.intro (by omega) (And.intro (by omega) (And.intro (by omega) ⟨⟨1, h4⟩, Nat.lt_of_le_of_lt (Nat.sub_le _ _) (Nat.lt_succ_self _), trivial, trivial, trivial, ⟨trivial, fun _ _ => (by first | trivial | rfl)⟩, trivial, (by first | trivial | rfl), ⟨trivial, trivial, trivial⟩, ⟨trivial, trivial⟩, (by first | trivial | rfl), trivial⟩)))))
      · simp only [decide_eq_false_iff_not] at h3
        have h4 : v = [] := List.length_eq_zero_iff.1 (by omega)
        subst h4
        rw [e1]
        obtain ⟨b1, b2⟩ := bytes_map ([88, 39] ++ hexText (List.take 0 []) ++ [39])
        refine And.intro ⟨?_⟩ (And.intro ⟨b1⟩ ?_)
        · simp only [List.length_map, List.length_cons, List.length_nil]; omega
        · rw [b2]
          unfold valueText
          rw [if_neg (by simpa using h), if_neg (by simp [h2])]
          rfl
    · simp only [Bool.not_eq_false', decide_eq_true_eq] at h
      rintro ⟨i, hi⟩
      dsimp only
      have hxl := hexText_len (v.take i)
      rw [List.length_take] at hxl
      refine And.intro (fun h3 => ?_) (fun h3 => ?_)
      · simp only [decide_eq_true_eq] at h3
        have h4 : i < v.length := by omega
        have hb := (v.getD i 0).toNat_lt
        rw [hex_hi _ (by omega), hex_lo _ (by omega), Int.toNat_natCast, Int.toNat_natCast, e2 i h4]
        simp only [Ob_iff, inI64, h16, List.length_map, List.length_append, List.length_cons, List.length_nil]
        refine And.intro (by omega) (And.intro (by omega) (And.intro (by omega) (And.intro (by omega) (And.intro (by omega) (And.intro (by omega) ⟨⟨i + 1, h4⟩, sub_step h4, trivial, trivial, trivial, ⟨trivial, fun _ _ => (by first | trivial | rfl)⟩, trivial, (by first | trivial | rfl), ⟨trivial, trivial, trivial⟩, ⟨trivial, trivial⟩, (by first | trivial | rfl), trivial⟩)))))
      · simp only [decide_eq_false_iff_not] at h3
        have h4 : i = v.length := by omega
        subst h4
        rw [List.take_length] at hxl ⊢
        rw [e1]
        obtain ⟨b1, b2⟩ := bytes_map ([88, 39] ++ hexText v ++ [39])
        refine And.intro ⟨?_⟩ (And.intro ⟨b1⟩ ?_)
        · simp only [List.length_map, List.length_append, List.length_cons, List.length_nil]; omega
        · rw [b2]
          unfold valueText
          rw [if_neg (by simpa using h), if_neg (by simp [h2])]
  · exact (Tr.run_fail hr).elim
noncomputable def CinsLine : Con
  | [.int .i64 op, v] => .need (0 ≤ op ∧ op < 19 ∧ ∃ l : List Str, eqv (slStrs l) v ∧ l.length ≤ 10000 ∧ (Lib.join l [44]).length ≤ 1000000) (.ret (.str (insLine op (strs v))))
  | _ => .fail
theorem opName_len : ∀ i, i < 19 → (opNames.getD i []).length ≤ 9 := by decide
theorem ok16 : Ok m 16 CinsLine := fn_ok2 (cons_cons ok18 cons_nil) Tryz.func16 (by kernel_rfl) fun xs r hr hp => by
  unfold CinsLine at hr
  split at hr
  · rename_i op v
    obtain ⟨⟨h0, h1, l, hl, hn, hj⟩, hr⟩ := Tr.run_need hr
    obtain rfl := Tr.run_ret hr
    rw [strs_eqv hl]
    refine ⟨[.int .i64 op, slStrs l], [], ⟨.inl rfl, .inr ⟨rfl, rfl, hl⟩, trivial⟩, of_nice ((decide ((↑l.length : Int) = (0 : Int)) = true → Ob ((0 : Int) ≤ op ∧ op < (↑(19 : Nat) : Int)) ∧ opNames.getD op.toNat [] = insLine op l) ∧ (decide ((↑l.length : Int) = (0 :
  Int)) = false → Ob ((0 : Int) ≤ op ∧ op < (↑(19 : Nat) : Int)) ∧ Ob (List.length (opNames.getD op.toNat []) + [(32 : UInt8)].length ≤ (9223372036854775807 : Nat)) ∧ Ob (∃ (l_1
  : List Str), eqv (slStrs l_1) (slStrs l) ∧ l_1.length ≤ (140737488355328 : Nat) ∧ (Lib.join l_1 [(44 : UInt8)]).length ≤ (140737488355328 : Nat)) ∧ Ob ((opNames.getD op.toNat
  [] ++ [(32 : UInt8)]).length + (Lib.join (strs (slStrs l)) [(44 : UInt8)]).length ≤ (9223372036854775807 : Nat)) ∧ opNames.getD op.toNat [] ++ [(32 : UInt8)] ++ Lib.join (strs
  (slStrs l)) [(44 : UInt8)] = insLine op l)) (by kernel_rfl) ?_⟩
    have hw := opName_len op.toNat (by omega)
    simp only [Ob_iff, strs_sl, List.length_append, List.length_cons, List.length_nil, decide_eq_true_eq, decide_eq_false_iff_not]
    refine And.intro (fun h => And.intro (by omega) ?_) (fun h => And.intro (by omega) (And.intro (by omega) (And.intro ⟨l, slStrs_refl l, by omega, by omega⟩ (And.intro (by omega) ?_))))
    · unfold insLine
      rw [if_pos (List.length_eq_zero_iff.1 (by omega))]
    · unfold insLine
      rw [if_neg (fun e => h (by rw [e]; rfl))]
  · exact (Tr.run_fail hr).elim
end Go.Proofs.YtgcnbicoajjlaaaGreatDoor
end
section
set_option linter.unusedVariables false
set_option linter.unusedSimpArgs false
set_option maxRecDepth 100000
namespace Go.Proofs.YtgcnbicoajjlaaaGreatDoor
open Go Go.Eng Go.Tx
variable {m : Int}
def opdWr (o : Opd) : Prop := o.name.length ≤ 10000 ∧ o.base.length ≤ 10000 ∧ ((o.kind = 0 ∨ o.kind = 4) → tyWr o.ty ∧ valWr o.ty o.n o.v) ∧ ((o.kind = 1 ∨ o.kind = 2) → tyWr o.ty ∧ inI64 o.off) ∧ ((¬ (o.kind = 0 ∨ o.kind = 1 ∨ o.kind = 2 ∨ o.kind = 3 ∨ o.kind = 4)) → inI64 o.tgt)
noncomputable def CopdLine : Con
  | [v] => .need (v = aOpd (opdOf v) ∧ opdWr (opdOf v)) (.ret (.str (opdLine (opdOf v))))
  | _ => .fail
noncomputable def OpdP (o : Opd) (T V F G : Str) (L : Str) : Prop :=
  ((decide (o.kind = (0 : Int)) = true → Ob ([(68 : UInt8), (67 : UInt8), (76 : UInt8), (32 : UInt8), (68 : UInt8), (68 : UInt8), (32 : UInt8)].length + List.length o.name ≤
  (9223372036854775807 : Nat)) ∧ Ob (([(68 : UInt8), (67 : UInt8), (76 : UInt8), (32 : UInt8), (68 : UInt8), (68 : UInt8), (32 : UInt8)] ++ o.name).length + [(32 : UInt8)].length
  ≤ (9223372036854775807 : Nat)) ∧ Ob (aTy o.ty = aTy o.ty ∧ tyWr o.ty) ∧ Ob (([(68 : UInt8), (67 : UInt8), (76 : UInt8), (32 : UInt8), (68 : UInt8), (68 : UInt8), (32 : UInt8)]
  ++ o.name ++ [(32 : UInt8)]).length + List.length (T) ≤ (9223372036854775807 : Nat)) ∧ Ob (([(68 : UInt8), (67 : UInt8), (76 : UInt8), (32 : UInt8), (68 : UInt8), (68 : UInt8),
  (32 : UInt8)] ++ o.name ++ [(32 : UInt8)] ++ T).length + [(32 : UInt8), (73 : UInt8), (78 : UInt8), (73 : UInt8), (84 : UInt8), (40 : UInt8)].length ≤ (9223372036854775807 :
  Nat)) ∧ Ob (aTy o.ty = aTy o.ty ∧ aVal o.n o.v = aVal o.n o.v ∧ valWr o.ty o.n o.v) ∧ Ob (([(68 : UInt8), (67 : UInt8), (76 : UInt8), (32 : UInt8), (68 : UInt8), (68 : UInt8),
  (32 : UInt8)] ++ o.name ++ [(32 : UInt8)] ++ T ++ [(32 : UInt8), (73 : UInt8), (78 : UInt8), (73 : UInt8), (84 : UInt8), (40 : UInt8)]).length + List.length (V) ≤
  (9223372036854775807 : Nat)) ∧ Ob (([(68 : UInt8), (67 : UInt8), (76 : UInt8), (32 : UInt8), (68 : UInt8), (68 : UInt8), (32 : UInt8)] ++ o.name ++ [(32 : UInt8)] ++ T ++ [(32
  : UInt8), (73 : UInt8), (78 : UInt8), (73 : UInt8), (84 : UInt8), (40 : UInt8)] ++ V).length + [(41 : UInt8)].length ≤ (9223372036854775807 : Nat)) ∧ [(68 : UInt8), (67 :
  UInt8), (76 : UInt8), (32 : UInt8), (68 : UInt8), (68 : UInt8), (32 : UInt8)] ++ o.name ++ [(32 : UInt8)] ++ T ++ [(32 : UInt8), (73 : UInt8), (78 : UInt8), (73 : UInt8), (84 :
  UInt8), (40 : UInt8)] ++ V ++ [(41 : UInt8)] = L) ∧ (decide (o.kind = (0 : Int)) = false → (decide (o.kind = (1 : Int)) = true → Ob ([(68 : UInt8), (67 : UInt8), (76 : UInt8),
  (32 : UInt8), (68 : UInt8), (68 : UInt8), (32 : UInt8)].length + List.length o.name ≤ (9223372036854775807 : Nat)) ∧ Ob (([(68 : UInt8), (67 : UInt8), (76 : UInt8), (32 :
  UInt8), (68 : UInt8), (68 : UInt8), (32 : UInt8)] ++ o.name).length + [(32 : UInt8)].length ≤ (9223372036854775807 : Nat)) ∧ Ob (aTy o.ty = aTy o.ty ∧ tyWr o.ty) ∧ Ob (([(68 :
  UInt8), (67 : UInt8), (76 : UInt8), (32 : UInt8), (68 : UInt8), (68 : UInt8), (32 : UInt8)] ++ o.name ++ [(32 : UInt8)]).length + List.length (T) ≤ (9223372036854775807 : Nat))
  ∧ Ob (([(68 : UInt8), (67 : UInt8), (76 : UInt8), (32 : UInt8), (68 : UInt8), (68 : UInt8), (32 : UInt8)] ++ o.name ++ [(32 : UInt8)] ++ T).length + [(32 : UInt8), (68 :
  UInt8), (69 : UInt8), (70 : UInt8), (40 : UInt8)].length ≤ (9223372036854775807 : Nat)) ∧ Ob (([(68 : UInt8), (67 : UInt8), (76 : UInt8), (32 : UInt8), (68 : UInt8), (68 :
  UInt8), (32 : UInt8)] ++ o.name ++ [(32 : UInt8)] ++ T ++ [(32 : UInt8), (68 : UInt8), (69 : UInt8), (70 : UInt8), (40 : UInt8)]).length + List.length o.base ≤
  (9223372036854775807 : Nat)) ∧ Ob (([(68 : UInt8), (67 : UInt8), (76 : UInt8), (32 : UInt8), (68 : UInt8), (68 : UInt8), (32 : UInt8)] ++ o.name ++ [(32 : UInt8)] ++ T ++ [(32
  : UInt8), (68 : UInt8), (69 : UInt8), (70 : UInt8), (40 : UInt8)] ++ o.base).length + [(44 : UInt8)].length ≤ (9223372036854775807 : Nat)) ∧ Ob ((-9223372036854775808 : Int) ≤
  o.off ∧ o.off ≤ (9223372036854775807 : Int)) ∧ Ob (([(68 : UInt8), (67 : UInt8), (76 : UInt8), (32 : UInt8), (68 : UInt8), (68 : UInt8), (32 : UInt8)] ++ o.name ++ [(32 :
  UInt8)] ++ T ++ [(32 : UInt8), (68 : UInt8), (69 : UInt8), (70 : UInt8), (40 : UInt8)] ++ o.base ++ [(44 : UInt8)]).length + F.length ≤ (9223372036854775807 : Nat)) ∧ Ob (([(68
  : UInt8), (67 : UInt8), (76 : UInt8), (32 : UInt8), (68 : UInt8), (68 : UInt8), (32 : UInt8)] ++ o.name ++ [(32 : UInt8)] ++ T ++ [(32 : UInt8), (68 : UInt8), (69 : UInt8), (70
  : UInt8), (40 : UInt8)] ++ o.base ++ [(44 : UInt8)] ++ F).length + [(41 : UInt8)].length ≤ (9223372036854775807 : Nat)) ∧ [(68 : UInt8), (67 : UInt8), (76 : UInt8), (32 :
  UInt8), (68 : UInt8), (68 : UInt8), (32 : UInt8)] ++ o.name ++ [(32 : UInt8)] ++ T ++ [(32 : UInt8), (68 : UInt8), (69 : UInt8), (70 : UInt8), (40 : UInt8)] ++ o.base ++ [(44 :
  UInt8)] ++ F ++ [(41 : UInt8)] = L) ∧ (decide (o.kind = (1 : Int)) = false → (decide (o.kind = (2 : Int)) = true → Ob ([(68 : UInt8), (67 : UInt8), (76 : UInt8), (32 : UInt8),
  (68 : UInt8), (68 : UInt8), (32 : UInt8)].length + List.length o.name ≤ (9223372036854775807 : Nat)) ∧ Ob (([(68 : UInt8), (67 : UInt8), (76 : UInt8), (32 : UInt8), (68 :
  UInt8), (68 : UInt8), (32 : UInt8)] ++ o.name).length + [(32 : UInt8)].length ≤ (9223372036854775807 : Nat)) ∧ Ob (aTy o.ty = aTy o.ty ∧ tyWr o.ty) ∧ Ob (([(68 : UInt8), (67 :
  UInt8), (76 : UInt8), (32 : UInt8), (68 : UInt8), (68 : UInt8), (32 : UInt8)] ++ o.name ++ [(32 : UInt8)]).length + List.length (T) ≤ (9223372036854775807 : Nat)) ∧ Ob (([(68 :
  UInt8), (67 : UInt8), (76 : UInt8), (32 : UInt8), (68 : UInt8), (68 : UInt8), (32 : UInt8)] ++ o.name ++ [(32 : UInt8)] ++ T).length + [(32 : UInt8), (66 : UInt8), (65 :
  UInt8), (83 : UInt8), (40 : UInt8)].length ≤ (9223372036854775807 : Nat)) ∧ Ob (([(68 : UInt8), (67 : UInt8), (76 : UInt8), (32 : UInt8), (68 : UInt8), (68 : UInt8), (32 :
  UInt8)] ++ o.name ++ [(32 : UInt8)] ++ T ++ [(32 : UInt8), (66 : UInt8), (65 : UInt8), (83 : UInt8), (40 : UInt8)]).length + List.length o.base ≤ (9223372036854775807 : Nat)) ∧
  Ob (([(68 : UInt8), (67 : UInt8), (76 : UInt8), (32 : UInt8), (68 : UInt8), (68 : UInt8), (32 : UInt8)] ++ o.name ++ [(32 : UInt8)] ++ T ++ [(32 : UInt8), (66 : UInt8), (65 :
  UInt8), (83 : UInt8), (40 : UInt8)] ++ o.base).length + [(44 : UInt8)].length ≤ (9223372036854775807 : Nat)) ∧ Ob ((-9223372036854775808 : Int) ≤ o.off ∧ o.off ≤
  (9223372036854775807 : Int)) ∧ Ob (([(68 : UInt8), (67 : UInt8), (76 : UInt8), (32 : UInt8), (68 : UInt8), (68 : UInt8), (32 : UInt8)] ++ o.name ++ [(32 : UInt8)] ++ T ++ [(32
  : UInt8), (66 : UInt8), (65 : UInt8), (83 : UInt8), (40 : UInt8)] ++ o.base ++ [(44 : UInt8)]).length + F.length ≤ (9223372036854775807 : Nat)) ∧ Ob (([(68 : UInt8), (67 :
  UInt8), (76 : UInt8), (32 : UInt8), (68 : UInt8), (68 : UInt8), (32 : UInt8)] ++ o.name ++ [(32 : UInt8)] ++ T ++ [(32 : UInt8), (66 : UInt8), (65 : UInt8), (83 : UInt8), (40 :
  UInt8)] ++ o.base ++ [(44 : UInt8)] ++ F).length + [(41 : UInt8)].length ≤ (9223372036854775807 : Nat)) ∧ [(68 : UInt8), (67 : UInt8), (76 : UInt8), (32 : UInt8), (68 : UInt8),
  (68 : UInt8), (32 : UInt8)] ++ o.name ++ [(32 : UInt8)] ++ T ++ [(32 : UInt8), (66 : UInt8), (65 : UInt8), (83 : UInt8), (40 : UInt8)] ++ o.base ++ [(44 : UInt8)] ++ F ++ [(41
  : UInt8)] = L) ∧ (decide (o.kind = (2 : Int)) = false → (decide (o.kind = (3 : Int)) = true → Ob ([(68 : UInt8), (67 : UInt8), (76 : UInt8), (32 : UInt8), (80 : UInt8), (84 :
  UInt8), (82 : UInt8), (32 : UInt8)].length + List.length o.name ≤ (9223372036854775807 : Nat)) ∧ [(68 : UInt8), (67 : UInt8), (76 : UInt8), (32 : UInt8), (80 : UInt8), (84 :
  UInt8), (82 : UInt8), (32 : UInt8)] ++ o.name = L) ∧ (decide (o.kind = (3 : Int)) = false → (decide (o.kind = (4 : Int)) = true → Ob ([(68 : UInt8), (67 : UInt8), (76 : UInt8),
  (32 : UInt8), (67 : UInt8), (79 : UInt8), (78 : UInt8), (32 : UInt8)].length + List.length o.name ≤ (9223372036854775807 : Nat)) ∧ Ob (([(68 : UInt8), (67 : UInt8), (76 :
  UInt8), (32 : UInt8), (67 : UInt8), (79 : UInt8), (78 : UInt8), (32 : UInt8)] ++ o.name).length + [(32 : UInt8)].length ≤ (9223372036854775807 : Nat)) ∧ Ob (aTy o.ty = aTy o.ty
  ∧ tyWr o.ty) ∧ Ob (([(68 : UInt8), (67 : UInt8), (76 : UInt8), (32 : UInt8), (67 : UInt8), (79 : UInt8), (78 : UInt8), (32 : UInt8)] ++ o.name ++ [(32 : UInt8)]).length +
  List.length (T) ≤ (9223372036854775807 : Nat)) ∧ Ob (([(68 : UInt8), (67 : UInt8), (76 : UInt8), (32 : UInt8), (67 : UInt8), (79 : UInt8), (78 : UInt8), (32 : UInt8)] ++ o.name
  ++ [(32 : UInt8)] ++ T).length + [(32 : UInt8), (73 : UInt8), (78 : UInt8), (73 : UInt8), (84 : UInt8), (40 : UInt8)].length ≤ (9223372036854775807 : Nat)) ∧ Ob (aTy o.ty = aTy
  o.ty ∧ aVal o.n o.v = aVal o.n o.v ∧ valWr o.ty o.n o.v) ∧ Ob (([(68 : UInt8), (67 : UInt8), (76 : UInt8), (32 : UInt8), (67 : UInt8), (79 : UInt8), (78 : UInt8), (32 : UInt8)]
  ++ o.name ++ [(32 : UInt8)] ++ T ++ [(32 : UInt8), (73 : UInt8), (78 : UInt8), (73 : UInt8), (84 : UInt8), (40 : UInt8)]).length + List.length (V) ≤ (9223372036854775807 :
  Nat)) ∧ Ob (([(68 : UInt8), (67 : UInt8), (76 : UInt8), (32 : UInt8), (67 : UInt8), (79 : UInt8), (78 : UInt8), (32 : UInt8)] ++ o.name ++ [(32 : UInt8)] ++ T ++ [(32 : UInt8),
  (73 : UInt8), (78 : UInt8), (73 : UInt8), (84 : UInt8), (40 : UInt8)] ++ V).length + [(41 : UInt8)].length ≤ (9223372036854775807 : Nat)) ∧ [(68 : UInt8), (67 : UInt8), (76 :
  UInt8), (32 : UInt8), (67 : UInt8), (79 : UInt8), (78 : UInt8), (32 : UInt8)] ++ o.name ++ [(32 : UInt8)] ++ T ++ [(32 : UInt8), (73 : UInt8), (78 : UInt8), (73 : UInt8), (84 :
  UInt8), (40 : UInt8)] ++ V ++ [(41 : UInt8)] = L) ∧ (decide (o.kind = (4 : Int)) = false → Ob ([(68 : UInt8), (67 : UInt8), (76 : UInt8), (32 : UInt8), (76 : UInt8), (65 :
  UInt8), (66 : UInt8), (69 : UInt8), (76 : UInt8), (32 : UInt8)].length + List.length o.name ≤ (9223372036854775807 : Nat)) ∧ Ob (([(68 : UInt8), (67 : UInt8), (76 : UInt8), (32
  : UInt8), (76 : UInt8), (65 : UInt8), (66 : UInt8), (69 : UInt8), (76 : UInt8), (32 : UInt8)] ++ o.name).length + [(32 : UInt8)].length ≤ (9223372036854775807 : Nat)) ∧ Ob
  ((-9223372036854775808 : Int) ≤ o.tgt ∧ o.tgt ≤ (9223372036854775807 : Int)) ∧ Ob (([(68 : UInt8), (67 : UInt8), (76 : UInt8), (32 : UInt8), (76 : UInt8), (65 : UInt8), (66 :
  UInt8), (69 : UInt8), (76 : UInt8), (32 : UInt8)] ++ o.name ++ [(32 : UInt8)]).length + G.length ≤ (9223372036854775807 : Nat)) ∧ [(68 : UInt8), (67 : UInt8), (76 : UInt8), (32
  : UInt8), (76 : UInt8), (65 : UInt8), (66 : UInt8), (69 : UInt8), (76 : UInt8), (32 : UInt8)] ++ o.name ++ [(32 : UInt8)] ++ G = L))))))
theorem opd_key {o : Opd} {T V F G L : Str} (hw : opdWr o) (hT : tyWr o.ty → T.length ≤ 60) (hV : valWr o.ty o.n o.v → V.length ≤ 20100) (hF : inI64 o.off → F.length ≤ 20) (hG : inI64 o.tgt → G.length ≤ 20)
    (hL : L = if o.kind = 0 then [68, 67, 76, 32, 68, 68, 32] ++ o.name ++ [32] ++ T ++ [32, 73, 78, 73, 84, 40] ++ V ++ [41]
      else if o.kind = 1 then [68, 67, 76, 32, 68, 68, 32] ++ o.name ++ [32] ++ T ++ [32, 68, 69, 70, 40] ++ o.base ++ [44] ++ F ++ [41]
      else if o.kind = 2 then [68, 67, 76, 32, 68, 68, 32] ++ o.name ++ [32] ++ T ++ [32, 66, 65, 83, 40] ++ o.base ++ [44] ++ F ++ [41]
      else if o.kind = 3 then [68, 67, 76, 32, 80, 84, 82, 32] ++ o.name
      else if o.kind = 4 then [68, 67, 76, 32, 67, 79, 78, 32] ++ o.name ++ [32] ++ T ++ [32, 73, 78, 73, 84, 40] ++ V ++ [41]
      else [68, 67, 76, 32, 76, 65, 66, 69, 76, 32] ++ o.name ++ [32] ++ G) : OpdP o T V F G L := by
  obtain ⟨w1, w2, w3, w4, w5⟩ := hw
  unfold OpdP
  simp only [Ob_iff, true_and, List.length_append, List.length_cons, List.length_nil, decide_eq_true_eq, decide_eq_false_iff_not]
  refine And.intro (fun h0 => ?_) (fun h0 => And.intro (fun h1 => ?_) (fun h1 => And.intro (fun h2 => ?_) (fun h2 => And.intro (fun h3 => ?_) (fun h3 => And.intro (fun h4 => ?_) (fun h4 => ?_)))))
  · rw [if_pos h0] at hL
    obtain ⟨t1, t2⟩ := w3 (.inl h0)
    have t3 := hT t1
    have t4 := hV t2
    repeat' first | exact t1 | exact t2 | exact hL.symm | refine And.intro ?_ ?_ | omega
  · rw [if_neg h0, if_pos h1] at hL
    obtain ⟨t1, t2⟩ := w4 (.inl h1)
    have t3 := hT t1
    have t4 := hF t2
    repeat' first | exact t1 | exact t2 | exact hL.symm | refine And.intro ?_ ?_ | omega | exact t2.1 | exact t2.2
  · rw [if_neg h0, if_neg h1, if_pos h2] at hL
    obtain ⟨t1, t2⟩ := w4 (.inr h2)
    have t3 := hT t1
    have t4 := hF t2
    repeat' first | exact t1 | exact t2 | exact hL.symm | refine And.intro ?_ ?_ | omega | exact t2.1 | exact t2.2
  · rw [if_neg h0, if_neg h1, if_neg h2, if_pos h3] at hL
    repeat' first | exact hL.symm | refine And.intro ?_ ?_ | omega
  · rw [if_neg h0, if_neg h1, if_neg h2, if_neg h3, if_pos h4] at hL
    obtain ⟨t1, t2⟩ := w3 (.inr h4)
    have t3 := hT t1
    have t4 := hV t2
    repeat' first | exact t1 | exact t2 | exact hL.symm | refine And.intro ?_ ?_ | omega
  · rw [if_neg h0, if_neg h1, if_neg h2, if_neg h3, if_neg h4] at hL
    have t2 := w5 (by omega)
    have t4 := hG t2
    repeat' first | exact t2 | exact hL.symm | refine And.intro ?_ ?_ | omega | exact t2.1 | exact t2.2
theorem ok15 : Ok m 15 CopdLine := fn_ok2 (cons_cons ok32 (cons_cons ok33 (cons_cons ok34 cons_nil))) Tryz.func15 (by kernel_rfl) fun xs r hr hp => by
  unfold CopdLine at hr
  split at hr
  · rename_i v
    obtain ⟨⟨hv, hw⟩, hr⟩ := Tr.run_need hr
    obtain rfl := Tr.run_ret hr
    generalize opdOf v = o at *
    subst hv
    clear hr hp
    refine ⟨_, [], args_self _, of_nice (OpdP o (typeText o.ty) (valueText o.ty o.n o.v) (Lib.itoa o.off) (Lib.itoa o.tgt) (opdLine o)) (by kernel_rfl) ?_⟩
    exact opd_key hw typeText_len valueText_len (fun h => itoa_len h.1 h.2) (fun h => itoa_len h.1 h.2) rfl
  · exact (Tr.run_fail hr).elim
noncomputable def monPart (o : Mon) (j : Nat) : Str := sMON ++ (([o.fr, o.to, o.ex, o.hd] : List Int).take j).flatMap (fun n => [32] ++ Lib.itoa n)
noncomputable def inv17 (o : Mon) : Eng.Inv :=
  ⟨{ j : Nat // j ≤ 4 }, fun j => [(3, .str (monPart o j.1)), (14, .sl true 1 4 (fun i => [.int .i64 (([o.fr, o.to, o.ex, o.hd] : List Int).getD i 0)])), (15, I 4), (16, I j.1)], fun _ => [], fun j => 4 - j.1⟩
noncomputable def CmonLine : Con
  | [v] => .need (v = aMon (monOf v) ∧ inI64 (monOf v).fr ∧ inI64 (monOf v).to ∧ inI64 (monOf v).ex ∧ inI64 (monOf v).hd) (.ret (.str (monLine (monOf v))))
  | _ => .fail
theorem monPart_end (o : Mon) : monPart o 4 = monLine o := by
  simp [monPart, monLine]
theorem ok17 : Ok m 17 CmonLine := fn_ok2 (cons_cons ok34 cons_nil) Tryz.func17 (by kernel_rfl) fun xs r hr hp => by
  unfold CmonLine at hr
  split at hr
  · rename_i v
    obtain ⟨⟨hv, f1, f2, f3, f4⟩, hr⟩ := Tr.run_need hr
    obtain rfl := Tr.run_ret hr
    generalize monOf v = o at *
    subst hv
    clear hr hp
    refine ⟨_, [(0, inv17 o)], args_self _, of_nice ((∃ (j : { j : Nat // j ≤ (4 : Nat) }), [(77 : UInt8), (79 : UInt8), (78 : UInt8), (73 : UInt8), (84 : UInt8), (79 : UInt8), (82 : UInt8)] = monPart o j.val ∧ ((4 : Nat) = (4 :
  Nat) ∧ ∀ (i : Nat), i < (4 : Nat) → List.take (1 : Nat) (List.drop (i * (1 : Nat)) [AV.int IntKind.i64 o.fr, AV.int IntKind.i64 o.to, AV.int IntKind.i64 o.ex, AV.int
  IntKind.i64 o.hd]) = [AV.int IntKind.i64 ([o.fr, o.to, o.ex, o.hd].getD i (0 : Int))]) ∧ (↑(4 : Nat) : Int) = (4 : Int) ∧ (0 : Int) = (↑j.val : Int) ∧ True) ∧ ∀ (i : { j : Nat
  // j ≤ (4 : Nat) }), (decide ((↑i.val : Int) < (4 : Int)) = true → Ob ((0 : Int) ≤ (↑i.val : Int) ∧ (↑i.val : Int) < (↑(4 : Nat) : Int)) ∧ Ob ((-9223372036854775808 : Int) ≤
  [o.fr, o.to, o.ex, o.hd].getD i.val (0 : Int) ∧ [o.fr, o.to, o.ex, o.hd].getD i.val (0 : Int) ≤ (9223372036854775807 : Int)) ∧ Ob ([(32 : UInt8)].length + (Lib.itoa ([o.fr,
  o.to, o.ex, o.hd].getD i.val (0 : Int))).length ≤ (9223372036854775807 : Nat)) ∧ Ob (List.length (monPart o i.val) + ([(32 : UInt8)] ++ Lib.itoa ([o.fr, o.to, o.ex, o.hd].getD
  i.val (0 : Int))).length ≤ (9223372036854775807 : Nat)) ∧ Ob (inI64 ((↑i.val : Int) + (1 : Int))) ∧ ∃ (j : { j : Nat // j ≤ (4 : Nat) }), ((4 : Nat) - j.val).succ.le ((4 : Nat)
  - i.val) ∧ monPart o i.val ++ ([(32 : UInt8)] ++ Lib.itoa ([o.fr, o.to, o.ex, o.hd].getD i.val (0 : Int))) = monPart o j.val ∧ ((4 : Nat) = (4 : Nat) ∧ ∀ (i : Nat), i < (4 :
  Nat) → [AV.int IntKind.i64 ([o.fr, o.to, o.ex, o.hd].getD i (0 : Int))] = [AV.int IntKind.i64 ([o.fr, o.to, o.ex, o.hd].getD i (0 : Int))]) ∧ (4 : Int) = (4 : Int) ∧ (↑i.val :
  Int) + (1 : Int) = (↑j.val : Int) ∧ True) ∧ (decide ((↑i.val : Int) < (4 : Int)) = false → monPart o i.val = monLine o)) (by kernel_rfl) ?_⟩
    refine And.intro ⟨⟨0, by omega⟩, rfl, ⟨rfl, fun i hi => ?_⟩, rfl, rfl, trivial⟩ ?_
    · match i, hi with
      | 0, _ => rfl
      | 1, _ => rfl
      | 2, _ => rfl
      | 3, _ => rfl
    · rintro ⟨j, hj⟩
      dsimp only
      simp only [Ob_iff, inI64, List.length_append, List.length_cons, List.length_nil, decide_eq_true_eq, decide_eq_false_iff_not]
      have g1 := itoa_len f1.1 f1.2
      have g2 := itoa_len f2.1 f2.2
      have g3 := itoa_len f3.1 f3.2
      have g4 := itoa_len f4.1 f4.2
      have hM : sMON.length = 7 := rfl
      unfold inI64 at f1 f2 f3 f4
      have hc : j = 0 ∨ j = 1 ∨ j = 2 ∨ j = 3 ∨ j = 4 := by omega
      rcases hc with rfl | rfl | rfl | rfl | rfl
      · refine And.intro (fun _ => ?_) (fun h => by omega)
        refine ⟨by omega, f1, ?_, ?_, by omega, ⟨1, by omega⟩, Nat.le_refl _, ?_, ⟨trivial, fun _ _ => trivial⟩, trivial, rfl, trivial⟩
        · show 0 + 1 + (Lib.itoa o.fr).length ≤ _; omega
        · show (monPart o 0).length + (0 + 1 + (Lib.itoa o.fr).length) ≤ _
          simp only [monPart, List.length_append, List.take_zero, List.flatMap_nil, List.length_nil]; omega
        · simp [monPart]
      · refine And.intro (fun _ => ?_) (fun h => by omega)
        refine ⟨by omega, f2, ?_, ?_, by omega, ⟨2, by omega⟩, Nat.le_refl _, ?_, ⟨trivial, fun _ _ => trivial⟩, trivial, rfl, trivial⟩
        · show 0 + 1 + (Lib.itoa o.to).length ≤ _; omega
        · show (monPart o 1).length + (0 + 1 + (Lib.itoa o.to).length) ≤ _
          simp [monPart]; omega
        · simp [monPart]
      · refine And.intro (fun _ => ?_) (fun h => by omega)
        refine ⟨by omega, f3, ?_, ?_, by omega, ⟨3, by omega⟩, Nat.le_refl _, ?_, ⟨trivial, fun _ _ => trivial⟩, trivial, rfl, trivial⟩
        · show 0 + 1 + (Lib.itoa o.ex).length ≤ _; omega
        · show (monPart o 2).length + (0 + 1 + (Lib.itoa o.ex).length) ≤ _
          simp [monPart]; omega
        · simp [monPart]
      · refine And.intro (fun _ => ?_) (fun h => by omega)
        refine ⟨by omega, f4, ?_, ?_, by omega, ⟨4, by omega⟩, Nat.le_refl _, ?_, ⟨trivial, fun _ _ => trivial⟩, trivial, rfl, trivial⟩
        · show 0 + 1 + (Lib.itoa o.hd).length ≤ _; omega
        · show (monPart o 3).length + (0 + 1 + (Lib.itoa o.hd).length) ≤ _
          simp [monPart]; omega
        · simp [monPart]
      · exact And.intro (fun h => by omega) (fun h => monPart_end o)
  · exact (Tr.run_fail hr).elim
end Go.Proofs.YtgcnbicoajjlaaaGreatDoor
end
