/-
What is proved: 'midrangetop.TopTextsRefused' returns true for every input, and its arguments read behind the call as they read before (the tied card of the statement 'TopTextsRefused').
  Its conditions: the row's own: the ten listed package-level variables start as the program's text lays them (the card ties them to that text); nothing else is asked.
  Part 12 of 15.
-/
import Derived.Test.YtgcnbicoajjlaaaGreatDoorA6
import Derived.Test.YtgcnbicoajjlaaaGreatDoorA9
import Derived.Test.YtgcnbicoajjlaaaGreatDoorA11
set_option linter.unusedSectionVars false
set_option linter.unusedVariables false
set_option linter.unusedSimpArgs false
section
set_option linter.unusedVariables false
set_option linter.unusedSimpArgs false
set_option maxRecDepth 100000
namespace Go.Proofs.YtgcnbicoajjlaaaGreatDoor
open Go Go.Eng Go.Tx
variable {m : Int}
theorem wrap_nat : ∀ n, n < 256 → IntKind.i64.wrap ((n : Nat) : Int) = (n : Int) := by decide
theorem wrap_byte (c : UInt8) : IntKind.i64.wrap (c.toNat : Int) = (c.toNat : Int) := wrap_nat _ c.toNat_lt
theorem hex_hi2 : ∀ n, n < 256 → IntKind.u8.wrap (((n : Nat) : Int).tdiv 16) = ((n / 16 : Nat) : Int) := by decide
theorem hex_lo2 : ∀ n, n < 256 → ((n : Nat) : Int).tmod 16 = ((n % 16 : Nat) : Int) := by decide
theorem dig_wrap : ∀ k, k < 10 → IntKind.u8.wrap (48 + ((k : Nat) : Int)) = ((48 + k : Nat) : Int) := by decide
theorem dig_one {k : Nat} (h : k < 10) : (∀ x ∈ List.map (fun c => [c]) [AV.int IntKind.u8 (IntKind.u8.wrap (48 + (k : Int)))], isByte x) ∧ bytesV (List.map (fun c => [c]) [AV.int IntKind.u8 (IntKind.u8.wrap (48 + (k : Int)))]) = [UInt8.ofNat (48 + k)] := by
  rw [dig_wrap k h]
  refine ⟨fun x hx => ?_, ?_⟩
  · simp only [List.map_cons, List.map_nil, List.mem_singleton] at hx
    subst hx
    exact ⟨by omega, by omega⟩
  · simp only [bytesV, List.map_cons, List.map_nil, Int.toNat_natCast]
noncomputable def inv74 (s : Str) : Eng.Inv :=
  ⟨{ i : Nat // i ≤ s.length ∧ ∀ k, k < i → (32 ≤ (s.getD k 0).toNat ∧ (s.getD k 0).toNat ≤ 126) }, fun i => [(0, .str s), (3, I i.1)], fun _ => [], fun i => s.length - i.1⟩
noncomputable def CisPlain : Con
  | [.str s] => .need (s.length ≤ 10000) (.ret (.prop (isShown s)))
  | _ => .fail
theorem ok74 : Ok m 74 CisPlain := fn_ok2 (cons_cons ok6 cons_nil) Tryz.func74 (by kernel_rfl) fun xs r hr hp => by
  unfold CisPlain at hr
  split at hr
  · rename_i s
    obtain ⟨hl, hr⟩ := Tr.run_need hr
    obtain rfl := Tr.run_ret hr
    refine ⟨_, [(0, inv74 s)], args_self _, of_nice ((∃ (j : { i : Nat // i ≤ List.length s ∧ ∀ (k : Nat), k < i → (32 : Nat) ≤ (List.getD s k (0 : UInt8)).toNat ∧ (List.getD s k (0 : UInt8)).toNat ≤ (126 : Nat) }), s = s ∧ (0 :
  Int) = (↑j.val : Int) ∧ True) ∧ ∀ (i :
  { i : Nat // i ≤ List.length s ∧ ∀ (k : Nat), k < i → (32 : Nat) ≤ (List.getD s k (0 : UInt8)).toNat ∧ (List.getD s k (0 : UInt8)).toNat ≤ (126 : Nat) }), (decide ((↑i.val :
  Int) < (↑(List.length s) : Int)) = true → Ob ((0 : Int) ≤ (↑i.val : Int) ∧ (↑i.val : Int) < (↑(List.length s) : Int)) ∧ ((!(decide ((32 : Int) ≤ IntKind.i64.wrap (↑(List.getD s
  i.val (0 : UInt8)).toNat : Int)) && decide (IntKind.i64.wrap (↑(List.getD s i.val (0 : UInt8)).toNat : Int) ≤ (126 : Int)))) = true → false = isShown s) ∧ ((!(decide ((32 :
  Int) ≤ IntKind.i64.wrap (↑(List.getD s i.val (0 : UInt8)).toNat : Int)) && decide (IntKind.i64.wrap (↑(List.getD s i.val (0 : UInt8)).toNat : Int) ≤ (126 : Int)))) = false → Ob
  (inI64 ((↑i.val : Int) + (1 : Int))) ∧ ∃ (j :
  { i : Nat // i ≤ List.length s ∧ ∀ (k : Nat), k < i → (32 : Nat) ≤ (List.getD s k (0 : UInt8)).toNat ∧ (List.getD s k (0 : UInt8)).toNat ≤ (126 : Nat) }), (List.length s -
  j.val).succ.le (List.length s - i.val) ∧ s = s ∧ (↑i.val : Int) + (1 : Int) = (↑j.val : Int) ∧ True)) ∧ (decide ((↑i.val : Int) < (↑(List.length s) : Int)) = false → true =
  isShown s)) (by kernel_rfl) ?_⟩
    refine And.intro ⟨⟨0, Nat.zero_le _, below_zero⟩, rfl, rfl, trivial⟩ ?_
    rintro ⟨i, hi, hk⟩
    dsimp only
    rw [wrap_byte]
    refine And.intro (fun h => ?_) (fun h => ?_)
    · have h' := lt_of_dec h
      have hm : s.getD i 0 ∈ s := by rw [List.getD_eq_getElem?_getD, List.getElem?_eq_getElem h']; exact List.getElem_mem h'
      refine And.intro ⟨Int.natCast_nonneg i, Int.ofNat_lt.2 h'⟩ (And.intro (fun hb => ?_) (fun hb => And.intro ⟨by constructor <;> omega⟩ ⟨⟨i + 1, h', below_succ hk ?_⟩, sub_step h', rfl, rfl, trivial⟩))
      · cases hs : isShown s with
        | false => rfl
        | true =>
          have := List.all_eq_true.1 hs _ hm
          simp only [decide_eq_true_eq] at this
          simp only [Bool.not_eq_true', Bool.and_eq_false_iff, decide_eq_false_iff_not] at hb
          omega
      · simp only [Bool.not_eq_false', Bool.and_eq_true, decide_eq_true_eq] at hb
        omega
    · have := ge_of_dec h hi
      subst this
      symm
      unfold isShown
      rw [List.all_eq_true]
      intro c hc
      obtain ⟨k, hk1, rfl⟩ := List.getElem_of_mem hc
      have := hk k hk1
      rw [List.getD_eq_getElem?_getD, List.getElem?_eq_getElem hk1] at this
      exact decide_eq_true this
  · exact (Tr.run_fail hr).elim
noncomputable def inv75 (s : Str) : Eng.Inv :=
  ⟨{ i : Nat // i ≤ s.length }, fun i => [(0, .str s), (3, .row 60), (4, I i.1)], fun i => [(60, .row 5 1 ((hexText (s.take i.1)).map cByte) false)], fun i => s.length - i.1⟩
noncomputable def ChexDigits : Con
  | [.str s] => .need (s.length ≤ 10000) (.ret (.str (hexText s)))
  | _ => .fail
theorem ok75 : Ok m 75 ChexDigits := fn_ok2 cons_nil Tryz.func75 (by kernel_rfl) fun xs r hr hp => by
  unfold ChexDigits at hr
  split at hr
  · rename_i s
    obtain ⟨hl, hr⟩ := Tr.run_need hr
    obtain rfl := Tr.run_ret hr
    refine ⟨_, [(0, inv75 s)], args_self _, of_nice ((∃ (j : { i : Nat // i ≤ List.length s }), s = s ∧ True ∧ (0 : Int) = (↑j.val : Int) ∧ List.map cByte (hexText (List.take j.val s)) = [] ∧ True) ∧ ∀ (i :
  { i : Nat // i ≤ List.length s }), (decide ((↑i.val : Int) < (↑(List.length s) : Int)) = true → Ob ((0 : Int) ≤ (↑i.val : Int) ∧ (↑i.val : Int) < (↑(List.length s) : Int)) ∧ Ob
  ((16 : Int) ≠ (0 : Int)) ∧ Ob ((0 : Int) ≤ IntKind.u8.wrap ((↑(List.getD s i.val (0 : UInt8)).toNat : Int).tdiv (16 : Int)) ∧ IntKind.u8.wrap ((↑(List.getD s i.val (0 :
  UInt8)).toNat : Int).tdiv (16 : Int)) < (↑[(48 : UInt8), (49 : UInt8), (50 : UInt8), (51 : UInt8), (52 : UInt8), (53 : UInt8), (54 : UInt8), (55 : UInt8), (56 : UInt8), (57 :
  UInt8), (65 : UInt8), (66 : UInt8), (67 : UInt8), (68 : UInt8), (69 : UInt8), (70 : UInt8)].length : Int)) ∧ Ob ((0 : Int) ≤ (↑i.val : Int) ∧ (↑i.val : Int) < (↑(List.length s)
  : Int)) ∧ Ob ((16 : Int) ≠ (0 : Int)) ∧ Ob ((0 : Int) ≤ (↑(List.getD s i.val (0 : UInt8)).toNat : Int).tmod (16 : Int) ∧ (↑(List.getD s i.val (0 : UInt8)).toNat : Int).tmod (16
  : Int) < (↑[(48 : UInt8), (49 : UInt8), (50 : UInt8), (51 : UInt8), (52 : UInt8), (53 : UInt8), (54 : UInt8), (55 : UInt8), (56 : UInt8), (57 : UInt8), (65 : UInt8), (66 :
  UInt8), (67 : UInt8), (68 : UInt8), (69 : UInt8), (70 : UInt8)].length : Int)) ∧ Ob ((List.map cByte (hexText (List.take i.val s))).length + (List.map (fun (c : AV) => [c])
  [AV.int IntKind.u8 (↑([(48 : UInt8), (49 : UInt8), (50 : UInt8), (51 : UInt8), (52 : UInt8), (53 : UInt8), (54 : UInt8), (55 : UInt8), (56 : UInt8), (57 : UInt8), (65 : UInt8),
  (66 : UInt8), (67 : UInt8), (68 : UInt8), (69 : UInt8), (70 : UInt8)].getD (IntKind.u8.wrap ((↑(List.getD s i.val (0 : UInt8)).toNat : Int).tdiv (16 : Int))).toNat (0 :
  UInt8)).toNat : Int), AV.int IntKind.u8 (↑([(48 : UInt8), (49 : UInt8), (50 : UInt8), (51 : UInt8), (52 : UInt8), (53 : UInt8), (54 : UInt8), (55 : UInt8), (56 : UInt8), (57 :
  UInt8), (65 : UInt8), (66 : UInt8), (67 : UInt8), (68 : UInt8), (69 : UInt8), (70 : UInt8)].getD ((↑(List.getD s i.val (0 : UInt8)).toNat : Int).tmod (16 : Int)).toNat (0 :
  UInt8)).toNat : Int)]).length ≤ (1048576 : Nat)) ∧ Ob (inI64 ((↑i.val : Int) + (1 : Int))) ∧ ∃ (j : { i : Nat // i ≤ List.length s }), (List.length s - j.val).succ.le
  (List.length s - i.val) ∧ s = s ∧ True ∧ (↑i.val : Int) + (1 : Int) = (↑j.val : Int) ∧ List.map cByte (hexText (List.take i.val s)) ++ List.map (fun (c : AV) => [c]) [AV.int
  IntKind.u8 (↑([(48 : UInt8), (49 : UInt8), (50 : UInt8), (51 : UInt8), (52 : UInt8), (53 : UInt8), (54 : UInt8), (55 : UInt8), (56 : UInt8), (57 : UInt8), (65 : UInt8), (66 :
  UInt8), (67 : UInt8), (68 : UInt8), (69 : UInt8), (70 : UInt8)].getD (IntKind.u8.wrap ((↑(List.getD s i.val (0 : UInt8)).toNat : Int).tdiv (16 : Int))).toNat (0 : UInt8)).toNat
  : Int), AV.int IntKind.u8 (↑([(48 : UInt8), (49 : UInt8), (50 : UInt8), (51 : UInt8), (52 : UInt8), (53 : UInt8), (54 : UInt8), (55 : UInt8), (56 : UInt8), (57 : UInt8), (65 :
  UInt8), (66 : UInt8), (67 : UInt8), (68 : UInt8), (69 : UInt8), (70 : UInt8)].getD ((↑(List.getD s i.val (0 : UInt8)).toNat : Int).tmod (16 : Int)).toNat (0 : UInt8)).toNat :
  Int)] = List.map cByte (hexText (List.take j.val s)) ∧ True) ∧ (decide ((↑i.val : Int) < (↑(List.length s) : Int)) = false → Ob (∀ (x : List AV), x ∈ List.map cByte (hexText
  (List.take i.val s)) → isByte x) ∧ bytesV (List.map cByte (hexText (List.take i.val s))) = hexText s)) (by kernel_rfl) ?_⟩
    have e2 : ∀ i, i < s.length → List.map cByte (hexText (s.take i)) ++ List.map (fun (c : AV) => [c]) [AV.int IntKind.u8 ((([48, 49, 50, 51, 52, 53, 54, 55, 56, 57, 65, 66, 67, 68, 69, 70] : Str).getD ((s.getD i 0).toNat / 16) 0).toNat : Int), AV.int IntKind.u8 ((([48, 49, 50, 51, 52, 53, 54, 55, 56, 57, 65, 66, 67, 68, 69, 70] : Str).getD ((s.getD i 0).toNat % 16) 0).toNat : Int)] = List.map cByte (hexText (s.take (i + 1))) := fun i hi => by
      rw [hexText_step hi, List.map_append (l₂ := [_, _])]
      rfl
    have h16 : (([48, 49, 50, 51, 52, 53, 54, 55, 56, 57, 65, 66, 67, 68, 69, 70] : Str).length : Int) = 16 := rfl
    refine And.intro ⟨⟨0, Nat.zero_le _⟩, rfl, trivial, rfl, rfl, trivial⟩ ?_
    rintro ⟨i, hi⟩
    dsimp only
    have hb := (s.getD i 0).toNat_lt
    have hxl := hexText_len (s.take i)
    rw [List.length_take] at hxl
    rw [hex_hi2 _ (by omega), hex_lo2 _ (by omega), Int.toNat_natCast, Int.toNat_natCast]
    refine And.intro (fun h => ?_) (fun h => ?_)
    · have h' := lt_of_dec h
      rw [e2 i h']
      simp only [Ob_iff, inI64, h16, List.length_map, List.length_append, List.length_cons, List.length_nil]
      exact ⟨by omega, by omega, by omega, by omega, by omega, by omega, by omega, by omega, ⟨i + 1, h'⟩, sub_step h', trivial, trivial, rfl, rfl, trivial⟩
    · have := ge_of_dec h hi
      subst this
      rw [List.take_length]
      obtain ⟨b1, b2⟩ := bytes_map (hexText s)
      exact And.intro ⟨b1⟩ b2
  · exact (Tr.run_fail hr).elim
noncomputable def CdigB (b : Int) : Con
  | [.int .i64 n] => .need (0 ≤ n ∧ n < b) (.ret (.str (Lib.itoa n)))
  | _ => .fail
theorem ok22a (b c : Int) (hb : Ok m 22 (CdigB b)) (hc : c ≤ 10 * b ∨ c ≤ 10) (hm : c ≤ 9223372036854775807) : Ok m 22 (CdigB c) := fn_ok2 (cons_cons hb cons_nil) Tryz.func22 (by kernel_rfl) fun xs r hr hp => by
  unfold CdigB at hr
  split at hr
  · rename_i n
    obtain ⟨⟨h0, h1⟩, hr⟩ := Tr.run_need hr
    obtain rfl := Tr.run_ret hr
    refine ⟨_, [], args_self _, of_nice ((decide (n < (-9 : Int)) = true → Ob ((10 : Int) ≠ (0 : Int)) ∧ Ob (inI64 (n.tdiv (10 : Int))) ∧ Ob (inI64 ((0 : Int) - n.tdiv (10 : Int))) ∧ Ob ((0 : Int) ≤ (0 : Int) - n.tdiv
  (10 : Int) ∧ (0 : Int) - n.tdiv (10 : Int) < b) ∧ Ob ([(45 : UInt8)].length + (Lib.itoa ((0 : Int) - n.tdiv (10 : Int))).length ≤ (9223372036854775807 : Nat)) ∧ Ob ((10 : Int)
  ≠ (0 : Int)) ∧ Ob (inI64 ((0 : Int) - n.tmod (10 : Int))) ∧ Ob ((0 : Int) ≤ (0 : Int) - n.tmod (10 : Int) ∧ (0 : Int) - n.tmod (10 : Int) < b) ∧ Ob (([(45 : UInt8)] ++ Lib.itoa
  ((0 : Int) - n.tdiv (10 : Int))).length + (Lib.itoa ((0 : Int) - n.tmod (10 : Int))).length ≤ (9223372036854775807 : Nat)) ∧ [(45 : UInt8)] ++ Lib.itoa ((0 : Int) - n.tdiv (10
  : Int)) ++ Lib.itoa ((0 : Int) - n.tmod (10 : Int)) = Lib.itoa n) ∧ (decide (n < (-9 : Int)) = false → (decide (n < (0 : Int)) = true → Ob (inI64 ((0 : Int) - n)) ∧ Ob ((0 :
  Int) ≤ (0 : Int) - n ∧ (0 : Int) - n < b) ∧ Ob ([(45 : UInt8)].length + (Lib.itoa ((0 : Int) - n)).length ≤ (9223372036854775807 : Nat)) ∧ [(45 : UInt8)] ++ Lib.itoa ((0 : Int)
  - n) = Lib.itoa n) ∧ (decide (n < (0 : Int)) = false → (decide (n < (10 : Int)) = true → Ob (inI64 ((48 : Int) + n)) ∧ Ob (∀ (x : List AV), x ∈ List.map (fun (c : AV) => [c])
  [AV.int IntKind.u8 (IntKind.u8.wrap ((48 : Int) + n))] → isByte x) ∧ bytesV (List.map (fun (c : AV) => [c]) [AV.int IntKind.u8 (IntKind.u8.wrap ((48 : Int) + n))]) = Lib.itoa
  n) ∧ (decide (n < (10 : Int)) = false → Ob ((10 : Int) ≠ (0 : Int)) ∧ Ob (inI64 (n.tdiv (10 : Int))) ∧ Ob ((0 : Int) ≤ n.tdiv (10 : Int) ∧ n.tdiv (10 : Int) < b) ∧ Ob ((10 :
  Int) ≠ (0 : Int)) ∧ Ob (inI64 ((48 : Int) + n.tmod (10 : Int))) ∧ Ob (∀ (x : List AV), x ∈ List.map (fun (c : AV) => [c]) [AV.int IntKind.u8 (IntKind.u8.wrap ((48 : Int) +
  n.tmod (10 : Int)))] → isByte x) ∧ Ob ((Lib.itoa (n.tdiv (10 : Int))).length + (bytesV (List.map (fun (c : AV) => [c]) [AV.int IntKind.u8 (IntKind.u8.wrap ((48 : Int) + n.tmod
  (10 : Int)))])).length ≤ (9223372036854775807 : Nat)) ∧ Lib.itoa (n.tdiv (10 : Int)) ++ bytesV (List.map (fun (c : AV) => [c]) [AV.int IntKind.u8 (IntKind.u8.wrap ((48 : Int) +
  n.tmod (10 : Int)))]) = Lib.itoa n)))) (by kernel_rfl) ?_⟩
    refine And.intro (fun h => ?_) (fun h => And.intro (fun h2 => ?_) (fun h2 => And.intro (fun h3 => ?_) (fun h3 => ?_)))
    · have := of_decide_eq_true h; omega
    · have := of_decide_eq_true h2; omega
    · have h3 := of_decide_eq_true h3
      obtain ⟨k, rfl⟩ : ∃ k : Nat, n = k := ⟨n.toNat, by omega⟩
      obtain ⟨d1, d2⟩ := dig_one (k := k) (by omega)
      refine And.intro ⟨by constructor <;> omega⟩ (And.intro ⟨d1⟩ ?_)
      rw [d2, itoa_nat, Lib.decDigits, dif_pos (by omega)]
    · have h3 := of_decide_eq_false h3
      obtain ⟨k, rfl⟩ : ∃ k : Nat, n = k := ⟨n.toNat, by omega⟩
      have e1 : ((k : Int)).tdiv 10 = ((k / 10 : Nat) : Int) := by rw [Int.tdiv_eq_ediv_of_nonneg (by omega)]; rfl
      have e2 : ((k : Int)).tmod 10 = ((k % 10 : Nat) : Int) := by rw [Int.tmod_eq_emod_of_nonneg (by omega)]; rfl
      rw [e1, e2]
      obtain ⟨d1, d2⟩ := dig_one (k := k % 10) (by omega)
      have hlen := itoa_len (n := ((k / 10 : Nat) : Int)) (by omega) (by omega)
      rw [d2]
      refine And.intro ⟨by decide⟩ (And.intro ⟨by constructor <;> omega⟩ (And.intro ⟨by omega, by omega⟩ (And.intro ⟨by decide⟩ (And.intro ⟨by constructor <;> omega⟩ (And.intro ⟨d1⟩ (And.intro ⟨?_⟩ ?_))))))
      · simp only [List.length_cons, List.length_nil]; omega
      · rw [itoa_nat, itoa_nat, Lib.decDigits.eq_1 k, dif_neg (by omega)]
  · exact (Tr.run_fail hr).elim
noncomputable def Cdigits : Con := CdigB 9223372036854775807
noncomputable def Cnames : Con
  | [] => .ret (slStrs opNames)
  | _ => .fail
noncomputable def NamesP : Prop :=
  ((19 : Nat) = opNames.length ∧ ∀ (i : Nat), i < opNames.length → List.take (1 : Nat) (List.drop (i * (1 : Nat)) [AV.str [(77 : UInt8), (79 : UInt8), (86 : UInt8), (69 : UInt8)],
  AV.str [(77 : UInt8), (79 : UInt8), (86 : UInt8), (69 : UInt8), (72 : UInt8)], AV.str [(65 : UInt8), (68 : UInt8), (68 : UInt8)], AV.str [(83 : UInt8), (85 : UInt8), (66 :
  UInt8)], AV.str [(77 : UInt8), (85 : UInt8), (76 : UInt8)], AV.str [(68 : UInt8), (73 : UInt8), (86 : UInt8)], AV.str [(82 : UInt8), (69 : UInt8), (77 : UInt8)], AV.str [(73 :
  UInt8), (70 : UInt8), (69 : UInt8), (81 : UInt8)], AV.str [(73 : UInt8), (70 : UInt8), (76 : UInt8), (84 : UInt8)], AV.str [(71 : UInt8), (79 : UInt8), (84 : UInt8), (79 :
  UInt8)], AV.str [(65 : UInt8), (68 : UInt8), (68 : UInt8), (82 : UInt8)], AV.str [(77 : UInt8), (79 : UInt8), (86 : UInt8), (69 : UInt8), (80 : UInt8)], AV.str [(65 : UInt8),
  (68 : UInt8), (86 : UInt8), (65 : UInt8), (78 : UInt8), (67 : UInt8), (69 : UInt8)], AV.str [(67 : UInt8), (65 : UInt8), (76 : UInt8), (76 : UInt8)], AV.str [(82 : UInt8), (69
  : UInt8), (84 : UInt8), (85 : UInt8), (82 : UInt8), (78 : UInt8)], AV.str [(83 : UInt8), (73 : UInt8), (71 : UInt8), (78 : UInt8), (65 : UInt8), (76 : UInt8)], AV.str [(69 :
  UInt8), (88 : UInt8), (67 : UInt8), (69 : UInt8), (80 : UInt8), (84 : UInt8), (73 : UInt8), (79 : UInt8), (78 : UInt8)], AV.str [(80 : UInt8), (82 : UInt8), (73 : UInt8), (78 :
  UInt8), (84 : UInt8)], AV.str [(69 : UInt8), (78 : UInt8), (68 : UInt8)]]) = [AV.str (opNames.getD i [])])
theorem names_key : NamesP := by
  unfold NamesP
  refine ⟨rfl, fun i hi' => ?_⟩
  have hi : i < 19 := hi'
  clear hi'
  match i, hi with
  | 0, _ => exact rfl
  | 1, _ => exact rfl
  | 2, _ => exact rfl
  | 3, _ => exact rfl
  | 4, _ => exact rfl
  | 5, _ => exact rfl
  | 6, _ => exact rfl
  | 7, _ => exact rfl
  | 8, _ => exact rfl
  | 9, _ => exact rfl
  | 10, _ => exact rfl
  | 11, _ => exact rfl
  | 12, _ => exact rfl
  | 13, _ => exact rfl
  | 14, _ => exact rfl
  | 15, _ => exact rfl
  | 16, _ => exact rfl
  | 17, _ => exact rfl
  | 18, _ => exact rfl
  | n + 19, h => exact absurd h (by omega)
theorem names_eq : NamesP = Runs m [] Tryz.f21 [] [] (slStrs opNames) := by kernel_rfl
theorem ok21 : Ok m 21 Cnames := fn_ok2 cons_nil Tryz.func21 (by kernel_rfl) fun xs r hr hp => by
  cases xs with
  | cons x xs => exact (Tr.run_fail hr).elim
  | nil =>
    have e : slStrs opNames = r := Tr.run_ret hr
    rw [← e]
    refine Exists.intro [] (Exists.intro [] (And.intro trivial ?_))
    rw [← names_eq]
    exact names_key
noncomputable def CtypeTextR : Con
  | [v] => .need (v = aTy (tyOf v) ∧ (0 ≤ (tyOf v).k ∧ (tyOf v).k ≤ 3) ∧ (0 ≤ (tyOf v).l ∧ (tyOf v).l ≤ 1000) ∧ 0 ≤ (tyOf v).s ∧ (tyOf v).s ≤ 1000) (.ret (.str (typeText (tyOf v))))
  | _ => .fail
theorem ok38 (h22 : Ok m 22 Cdigits) : Ok m 38 CtypeTextR := fn_ok2 (cons_cons h22 cons_nil) Tryz.func38 (by kernel_rfl) fun xs r hr hp => by
  unfold CtypeTextR at hr
  split at hr
  · rename_i v
    obtain ⟨⟨hv, ⟨h0, h3⟩, hl, hs⟩, hr⟩ := Tr.run_need hr
    obtain rfl := Tr.run_ret hr
    generalize tyOf v = t at *
    subst hv
    clear hr hp
    obtain ⟨k, l, s⟩ := t
    dsimp only at *
    have l1 := itoa_len (n := l) (by omega) (by omega)
    have l2 := itoa_len (n := s) (by omega) (by omega)
    have hk : k = 0 ∨ k = 1 ∨ k = 2 ∨ k = 3 := by omega
    rcases hk with rfl | rfl | rfl | rfl
    · refine ⟨_, [], args_self _, of_nice (Ob ((0 : Int) ≤ (0 : Int) ∧ (0 : Int) < (↑(4 : Nat) : Int)) ∧ (decide ((0 : Int) = (0 : Int)) = true → Ob ([(67 : UInt8), (72 : UInt8), (65 : UInt8), (82 : UInt8)].length + [(40
  : UInt8)].length ≤ (9223372036854775807 : Nat)) ∧ Ob ((0 : Int) ≤ l ∧ l < (9223372036854775807 : Int)) ∧ Ob (([(67 : UInt8), (72 : UInt8), (65 : UInt8), (82 : UInt8)] ++ [(40 :
  UInt8)]).length + (Lib.itoa l).length ≤ (9223372036854775807 : Nat)) ∧ Ob (([(67 : UInt8), (72 : UInt8), (65 : UInt8), (82 : UInt8)] ++ [(40 : UInt8)] ++ Lib.itoa l).length +
  [(41 : UInt8)].length ≤ (9223372036854775807 : Nat)) ∧ [(67 : UInt8), (72 : UInt8), (65 : UInt8), (82 : UInt8)] ++ [(40 : UInt8)] ++ Lib.itoa l ++ [(41 : UInt8)] = typeText
  { k := (0 : Int), l := l, s := s }) ∧ (decide ((0 : Int) = (0 : Int)) = false → Ob ([(67 : UInt8), (72 : UInt8), (65 : UInt8), (82 : UInt8)].length + [(40 : UInt8)].length ≤
  (9223372036854775807 : Nat)) ∧ Ob ((0 : Int) ≤ l ∧ l < (9223372036854775807 : Int)) ∧ Ob (([(67 : UInt8), (72 : UInt8), (65 : UInt8), (82 : UInt8)] ++ [(40 : UInt8)]).length +
  (Lib.itoa l).length ≤ (9223372036854775807 : Nat)) ∧ Ob (([(67 : UInt8), (72 : UInt8), (65 : UInt8), (82 : UInt8)] ++ [(40 : UInt8)] ++ Lib.itoa l).length + [(44 :
  UInt8)].length ≤ (9223372036854775807 : Nat)) ∧ Ob ((0 : Int) ≤ s ∧ s < (9223372036854775807 : Int)) ∧ Ob (([(67 : UInt8), (72 : UInt8), (65 : UInt8), (82 : UInt8)] ++ [(40 :
  UInt8)] ++ Lib.itoa l ++ [(44 : UInt8)]).length + (Lib.itoa s).length ≤ (9223372036854775807 : Nat)) ∧ Ob (([(67 : UInt8), (72 : UInt8), (65 : UInt8), (82 : UInt8)] ++ [(40 :
  UInt8)] ++ Lib.itoa l ++ [(44 : UInt8)] ++ Lib.itoa s).length + [(41 : UInt8)].length ≤ (9223372036854775807 : Nat)) ∧ [(67 : UInt8), (72 : UInt8), (65 : UInt8), (82 : UInt8)]
  ++ [(40 : UInt8)] ++ Lib.itoa l ++ [(44 : UInt8)] ++ Lib.itoa s ++ [(41 : UInt8)] = typeText { k := (0 : Int), l := l, s := s })) (by kernel_rfl) ?_⟩
      simp only [Ob_iff, List.length_append, List.length_cons, List.length_nil]
      refine And.intro ⟨by decide, by decide⟩ (And.intro (fun h => ?_) (fun h => ?_))
      · first | exact absurd h (by decide) | exact ⟨by omega, ⟨by omega, by omega⟩, by omega, by omega, by simp [typeText, kindWords]⟩
      · first | exact absurd h (by decide) | exact ⟨by omega, ⟨by omega, by omega⟩, by omega, by omega, ⟨by omega, by omega⟩, by omega, by omega, by simp [typeText, kindWords]⟩
    · refine ⟨_, [], args_self _, of_nice (Ob ((0 : Int) ≤ (1 : Int) ∧ (1 : Int) < (↑(4 : Nat) : Int)) ∧ (decide ((1 : Int) = (0 : Int)) = true → Ob ([(80 : UInt8), (65 : UInt8), (67 : UInt8), (75 : UInt8), (69 : UInt8),
  (68 : UInt8)].length + [(40 : UInt8)].length ≤ (9223372036854775807 : Nat)) ∧ Ob ((0 : Int) ≤ l ∧ l < (9223372036854775807 : Int)) ∧ Ob (([(80 : UInt8), (65 : UInt8), (67 :
  UInt8), (75 : UInt8), (69 : UInt8), (68 : UInt8)] ++ [(40 : UInt8)]).length + (Lib.itoa l).length ≤ (9223372036854775807 : Nat)) ∧ Ob (([(80 : UInt8), (65 : UInt8), (67 :
  UInt8), (75 : UInt8), (69 : UInt8), (68 : UInt8)] ++ [(40 : UInt8)] ++ Lib.itoa l).length + [(41 : UInt8)].length ≤ (9223372036854775807 : Nat)) ∧ [(80 : UInt8), (65 : UInt8),
  (67 : UInt8), (75 : UInt8), (69 : UInt8), (68 : UInt8)] ++ [(40 : UInt8)] ++ Lib.itoa l ++ [(41 : UInt8)] = typeText { k := (1 : Int), l := l, s := s }) ∧ (decide ((1 : Int) =
  (0 : Int)) = false → Ob ([(80 : UInt8), (65 : UInt8), (67 : UInt8), (75 : UInt8), (69 : UInt8), (68 : UInt8)].length + [(40 : UInt8)].length ≤ (9223372036854775807 : Nat)) ∧ Ob
  ((0 : Int) ≤ l ∧ l < (9223372036854775807 : Int)) ∧ Ob (([(80 : UInt8), (65 : UInt8), (67 : UInt8), (75 : UInt8), (69 : UInt8), (68 : UInt8)] ++ [(40 : UInt8)]).length +
  (Lib.itoa l).length ≤ (9223372036854775807 : Nat)) ∧ Ob (([(80 : UInt8), (65 : UInt8), (67 : UInt8), (75 : UInt8), (69 : UInt8), (68 : UInt8)] ++ [(40 : UInt8)] ++ Lib.itoa
  l).length + [(44 : UInt8)].length ≤ (9223372036854775807 : Nat)) ∧ Ob ((0 : Int) ≤ s ∧ s < (9223372036854775807 : Int)) ∧ Ob (([(80 : UInt8), (65 : UInt8), (67 : UInt8), (75 :
  UInt8), (69 : UInt8), (68 : UInt8)] ++ [(40 : UInt8)] ++ Lib.itoa l ++ [(44 : UInt8)]).length + (Lib.itoa s).length ≤ (9223372036854775807 : Nat)) ∧ Ob (([(80 : UInt8), (65 :
  UInt8), (67 : UInt8), (75 : UInt8), (69 : UInt8), (68 : UInt8)] ++ [(40 : UInt8)] ++ Lib.itoa l ++ [(44 : UInt8)] ++ Lib.itoa s).length + [(41 : UInt8)].length ≤
  (9223372036854775807 : Nat)) ∧ [(80 : UInt8), (65 : UInt8), (67 : UInt8), (75 : UInt8), (69 : UInt8), (68 : UInt8)] ++ [(40 : UInt8)] ++ Lib.itoa l ++ [(44 : UInt8)] ++
  Lib.itoa s ++ [(41 : UInt8)] = typeText { k := (1 : Int), l := l, s := s })) (by kernel_rfl) ?_⟩
      simp only [Ob_iff, List.length_append, List.length_cons, List.length_nil]
      refine And.intro ⟨by decide, by decide⟩ (And.intro (fun h => ?_) (fun h => ?_))
      · first | exact absurd h (by decide) | exact ⟨by omega, ⟨by omega, by omega⟩, by omega, by omega, by simp [typeText, kindWords]⟩
      · first | exact absurd h (by decide) | exact ⟨by omega, ⟨by omega, by omega⟩, by omega, by omega, ⟨by omega, by omega⟩, by omega, by omega, by simp [typeText, kindWords]⟩
    · refine ⟨_, [], args_self _, of_nice (Ob ((0 : Int) ≤ (2 : Int) ∧ (2 : Int) < (↑(4 : Nat) : Int)) ∧ (decide ((2 : Int) = (0 : Int)) = true → Ob ([(90 : UInt8), (79 : UInt8), (78 : UInt8), (69 : UInt8), (68 :
  UInt8)].length + [(40 : UInt8)].length ≤ (9223372036854775807 : Nat)) ∧ Ob ((0 : Int) ≤ l ∧ l < (9223372036854775807 : Int)) ∧ Ob (([(90 : UInt8), (79 : UInt8), (78 : UInt8),
  (69 : UInt8), (68 : UInt8)] ++ [(40 : UInt8)]).length + (Lib.itoa l).length ≤ (9223372036854775807 : Nat)) ∧ Ob (([(90 : UInt8), (79 : UInt8), (78 : UInt8), (69 : UInt8), (68 :
  UInt8)] ++ [(40 : UInt8)] ++ Lib.itoa l).length + [(41 : UInt8)].length ≤ (9223372036854775807 : Nat)) ∧ [(90 : UInt8), (79 : UInt8), (78 : UInt8), (69 : UInt8), (68 : UInt8)]
  ++ [(40 : UInt8)] ++ Lib.itoa l ++ [(41 : UInt8)] = typeText { k := (2 : Int), l := l, s := s }) ∧ (decide ((2 : Int) = (0 : Int)) = false → Ob ([(90 : UInt8), (79 : UInt8),
  (78 : UInt8), (69 : UInt8), (68 : UInt8)].length + [(40 : UInt8)].length ≤ (9223372036854775807 : Nat)) ∧ Ob ((0 : Int) ≤ l ∧ l < (9223372036854775807 : Int)) ∧ Ob (([(90 :
  UInt8), (79 : UInt8), (78 : UInt8), (69 : UInt8), (68 : UInt8)] ++ [(40 : UInt8)]).length + (Lib.itoa l).length ≤ (9223372036854775807 : Nat)) ∧ Ob (([(90 : UInt8), (79 :
  UInt8), (78 : UInt8), (69 : UInt8), (68 : UInt8)] ++ [(40 : UInt8)] ++ Lib.itoa l).length + [(44 : UInt8)].length ≤ (9223372036854775807 : Nat)) ∧ Ob ((0 : Int) ≤ s ∧ s <
  (9223372036854775807 : Int)) ∧ Ob (([(90 : UInt8), (79 : UInt8), (78 : UInt8), (69 : UInt8), (68 : UInt8)] ++ [(40 : UInt8)] ++ Lib.itoa l ++ [(44 : UInt8)]).length + (Lib.itoa
  s).length ≤ (9223372036854775807 : Nat)) ∧ Ob (([(90 : UInt8), (79 : UInt8), (78 : UInt8), (69 : UInt8), (68 : UInt8)] ++ [(40 : UInt8)] ++ Lib.itoa l ++ [(44 : UInt8)] ++
  Lib.itoa s).length + [(41 : UInt8)].length ≤ (9223372036854775807 : Nat)) ∧ [(90 : UInt8), (79 : UInt8), (78 : UInt8), (69 : UInt8), (68 : UInt8)] ++ [(40 : UInt8)] ++ Lib.itoa
  l ++ [(44 : UInt8)] ++ Lib.itoa s ++ [(41 : UInt8)] = typeText { k := (2 : Int), l := l, s := s })) (by kernel_rfl) ?_⟩
      simp only [Ob_iff, List.length_append, List.length_cons, List.length_nil]
      refine And.intro ⟨by decide, by decide⟩ (And.intro (fun h => ?_) (fun h => ?_))
      · first | exact absurd h (by decide) | exact ⟨by omega, ⟨by omega, by omega⟩, by omega, by omega, by simp [typeText, kindWords]⟩
      · first | exact absurd h (by decide) | exact ⟨by omega, ⟨by omega, by omega⟩, by omega, by omega, ⟨by omega, by omega⟩, by omega, by omega, by simp [typeText, kindWords]⟩
    · refine ⟨_, [], args_self _, of_nice (Ob ((0 : Int) ≤ (3 : Int) ∧ (3 : Int) < (↑(4 : Nat) : Int)) ∧ (decide ((3 : Int) = (0 : Int)) = true → Ob ([(66 : UInt8), (73 : UInt8), (78 : UInt8), (65 : UInt8), (82 : UInt8),
  (89 : UInt8)].length + [(40 : UInt8)].length ≤ (9223372036854775807 : Nat)) ∧ Ob ((0 : Int) ≤ l ∧ l < (9223372036854775807 : Int)) ∧ Ob (([(66 : UInt8), (73 : UInt8), (78 :
  UInt8), (65 : UInt8), (82 : UInt8), (89 : UInt8)] ++ [(40 : UInt8)]).length + (Lib.itoa l).length ≤ (9223372036854775807 : Nat)) ∧ Ob (([(66 : UInt8), (73 : UInt8), (78 :
  UInt8), (65 : UInt8), (82 : UInt8), (89 : UInt8)] ++ [(40 : UInt8)] ++ Lib.itoa l).length + [(41 : UInt8)].length ≤ (9223372036854775807 : Nat)) ∧ [(66 : UInt8), (73 : UInt8),
  (78 : UInt8), (65 : UInt8), (82 : UInt8), (89 : UInt8)] ++ [(40 : UInt8)] ++ Lib.itoa l ++ [(41 : UInt8)] = typeText { k := (3 : Int), l := l, s := s }) ∧ (decide ((3 : Int) =
  (0 : Int)) = false → Ob ([(66 : UInt8), (73 : UInt8), (78 : UInt8), (65 : UInt8), (82 : UInt8), (89 : UInt8)].length + [(40 : UInt8)].length ≤ (9223372036854775807 : Nat)) ∧ Ob
  ((0 : Int) ≤ l ∧ l < (9223372036854775807 : Int)) ∧ Ob (([(66 : UInt8), (73 : UInt8), (78 : UInt8), (65 : UInt8), (82 : UInt8), (89 : UInt8)] ++ [(40 : UInt8)]).length +
  (Lib.itoa l).length ≤ (9223372036854775807 : Nat)) ∧ Ob (([(66 : UInt8), (73 : UInt8), (78 : UInt8), (65 : UInt8), (82 : UInt8), (89 : UInt8)] ++ [(40 : UInt8)] ++ Lib.itoa
  l).length + [(44 : UInt8)].length ≤ (9223372036854775807 : Nat)) ∧ Ob ((0 : Int) ≤ s ∧ s < (9223372036854775807 : Int)) ∧ Ob (([(66 : UInt8), (73 : UInt8), (78 : UInt8), (65 :
  UInt8), (82 : UInt8), (89 : UInt8)] ++ [(40 : UInt8)] ++ Lib.itoa l ++ [(44 : UInt8)]).length + (Lib.itoa s).length ≤ (9223372036854775807 : Nat)) ∧ Ob (([(66 : UInt8), (73 :
  UInt8), (78 : UInt8), (65 : UInt8), (82 : UInt8), (89 : UInt8)] ++ [(40 : UInt8)] ++ Lib.itoa l ++ [(44 : UInt8)] ++ Lib.itoa s).length + [(41 : UInt8)].length ≤
  (9223372036854775807 : Nat)) ∧ [(66 : UInt8), (73 : UInt8), (78 : UInt8), (65 : UInt8), (82 : UInt8), (89 : UInt8)] ++ [(40 : UInt8)] ++ Lib.itoa l ++ [(44 : UInt8)] ++
  Lib.itoa s ++ [(41 : UInt8)] = typeText { k := (3 : Int), l := l, s := s })) (by kernel_rfl) ?_⟩
      simp only [Ob_iff, List.length_append, List.length_cons, List.length_nil]
      refine And.intro ⟨by decide, by decide⟩ (And.intro (fun h => ?_) (fun h => ?_))
      · first | exact absurd h (by decide) | exact ⟨by omega, ⟨by omega, by omega⟩, by omega, by omega, by simp [typeText, kindWords]⟩
      · first | exact absurd h (by decide) | exact ⟨by omega, ⟨by omega, by omega⟩, by omega, by omega, ⟨by omega, by omega⟩, by omega, by omega, by simp [typeText, kindWords]⟩
  · exact (Tr.run_fail hr).elim
noncomputable def inv73 (n : Int) (d : Str) (k : Nat) : Eng.Inv :=
  ⟨{ j : Nat // j ≤ k + 1 - d.length }, fun j => [(1, .ptr 1 0), (3, .str (List.replicate j.1 48 ++ d))], fun _ => [(1, .box [I n, I k] false)], fun j => k + 1 - d.length - j.1⟩
noncomputable def CtextR : Con
  | [.agg [.int .i64 n, .int .i64 s]] => .need (numberOk n s = true) (.ret (.str (numText n s)))
  | _ => .fail
noncomputable def TextP (n : Int) (k : Nat) (d X : Str) : Prop :=
  (Ob ((-9223372036854775807 : Int) ≤ n ∧ n ≤ (9223372036854775807 : Int)) ∧ Ob ((0 : Int) ≤ max n (-n) ∧ max n (-n) < (9223372036854775807 : Int)) ∧ (∃ (j :
  { j : Nat // j ≤ k + (1 : Nat) - d.length }), True ∧ d = List.replicate j.val (48 : UInt8) ++ d ∧ (n = n ∧ (↑k : Int) = (↑k : Int)) ∧ True) ∧ ∀ (i :
  { j : Nat // j ≤ k + (1 : Nat) - d.length }), (decide ((↑(List.replicate i.val (48 : UInt8) ++ d).length : Int) ≤ (↑k : Int)) = true → Ob ([(48 : UInt8)].length +
  (List.replicate i.val (48 : UInt8) ++ d).length ≤ (9223372036854775807 : Nat)) ∧ ∃ (j : { j : Nat // j ≤ k + (1 : Nat) - d.length }), (k + (1 : Nat) - d.length - j.val).succ.le
  (k + (1 : Nat) - d.length - i.val) ∧ True ∧ [(48 : UInt8)] ++ (List.replicate i.val (48 : UInt8) ++ d) = List.replicate j.val (48 : UInt8) ++ d ∧ (n = n ∧ (↑k : Int) = (↑k :
  Int)) ∧ True) ∧ (decide ((↑(List.replicate i.val (48 : UInt8) ++ d).length : Int) ≤ (↑k : Int)) = false → (decide ((0 : Int) < (↑k : Int)) = true → Ob (inI64 ((↑(List.replicate
  i.val (48 : UInt8) ++ d).length : Int) - (↑k : Int))) ∧ Ob ((0 : Int) ≤ (↑(List.replicate i.val (48 : UInt8) ++ d).length : Int) - (↑k : Int) ∧ (↑(List.replicate i.val (48 :
  UInt8) ++ d).length : Int) - (↑k : Int) ≤ (↑(List.replicate i.val (48 : UInt8) ++ d).length : Int)) ∧ Ob ((List.take (((↑(List.replicate i.val (48 : UInt8) ++ d).length : Int)
  - (↑k : Int)).toNat - (0 : Nat)) (List.drop (0 : Nat) (List.replicate i.val (48 : UInt8) ++ d))).length + [(46 : UInt8)].length ≤ (9223372036854775807 : Nat)) ∧ Ob (inI64
  ((↑(List.replicate i.val (48 : UInt8) ++ d).length : Int) - (↑k : Int))) ∧ Ob ((0 : Int) ≤ (↑(List.replicate i.val (48 : UInt8) ++ d).length : Int) - (↑k : Int) ∧
  (↑(List.replicate i.val (48 : UInt8) ++ d).length : Int) - (↑k : Int) ≤ (↑(List.replicate i.val (48 : UInt8) ++ d).length : Int)) ∧ Ob ((List.take (((↑(List.replicate i.val (48
  : UInt8) ++ d).length : Int) - (↑k : Int)).toNat - (0 : Nat)) (List.drop (0 : Nat) (List.replicate i.val (48 : UInt8) ++ d)) ++ [(46 : UInt8)]).length + (List.take
  ((List.replicate i.val (48 : UInt8) ++ d).length - ((↑(List.replicate i.val (48 : UInt8) ++ d).length : Int) - (↑k : Int)).toNat) (List.drop ((↑(List.replicate i.val (48 :
  UInt8) ++ d).length : Int) - (↑k : Int)).toNat (List.replicate i.val (48 : UInt8) ++ d))).length ≤ (9223372036854775807 : Nat)) ∧ (decide (n < (0 : Int)) = true → Ob ([(45 :
  UInt8)].length + (List.take (((↑(List.replicate i.val (48 : UInt8) ++ d).length : Int) - (↑k : Int)).toNat - (0 : Nat)) (List.drop (0 : Nat) (List.replicate i.val (48 : UInt8)
  ++ d)) ++ [(46 : UInt8)] ++ List.take ((List.replicate i.val (48 : UInt8) ++ d).length - ((↑(List.replicate i.val (48 : UInt8) ++ d).length : Int) - (↑k : Int)).toNat)
  (List.drop ((↑(List.replicate i.val (48 : UInt8) ++ d).length : Int) - (↑k : Int)).toNat (List.replicate i.val (48 : UInt8) ++ d))).length ≤ (9223372036854775807 : Nat)) ∧ [(45
  : UInt8)] ++ (List.take (((↑(List.replicate i.val (48 : UInt8) ++ d).length : Int) - (↑k : Int)).toNat - (0 : Nat)) (List.drop (0 : Nat) (List.replicate i.val (48 : UInt8) ++
  d)) ++ [(46 : UInt8)] ++ List.take ((List.replicate i.val (48 : UInt8) ++ d).length - ((↑(List.replicate i.val (48 : UInt8) ++ d).length : Int) - (↑k : Int)).toNat) (List.drop
  ((↑(List.replicate i.val (48 : UInt8) ++ d).length : Int) - (↑k : Int)).toNat (List.replicate i.val (48 : UInt8) ++ d))) = X) ∧ (decide (n < (0 : Int)) = false → List.take
  (((↑(List.replicate i.val (48 : UInt8) ++ d).length : Int) - (↑k : Int)).toNat - (0 : Nat)) (List.drop (0 : Nat) (List.replicate i.val (48 : UInt8) ++ d)) ++ [(46 : UInt8)] ++
  List.take ((List.replicate i.val (48 : UInt8) ++ d).length - ((↑(List.replicate i.val (48 : UInt8) ++ d).length : Int) - (↑k : Int)).toNat) (List.drop ((↑(List.replicate i.val
  (48 : UInt8) ++ d).length : Int) - (↑k : Int)).toNat (List.replicate i.val (48 : UInt8) ++ d)) = X)) ∧ (decide ((0 : Int) < (↑k : Int)) = false → (decide (n < (0 : Int)) = true
  → Ob ([(45 : UInt8)].length + (List.replicate i.val (48 : UInt8) ++ d).length ≤ (9223372036854775807 : Nat)) ∧ [(45 : UInt8)] ++ (List.replicate i.val (48 : UInt8) ++ d) = X) ∧
  (decide (n < (0 : Int)) = false → List.replicate i.val (48 : UInt8) ++ d = X))))
theorem text_key {n : Int} {k : Nat} {d X : Str} (hn : -999999999999999 ≤ n ∧ n ≤ 999999999999999) (hk : k ≤ 15) (hd : d.length ≤ 20) (hX : X = (if n < 0 then [45] else []) ++ pointed (padded d k) k) : TextP n k d X := by
  unfold TextP
  have hrl : ∀ j : Nat, (List.replicate j (48 : UInt8) ++ d).length = j + d.length := fun j => by simp
  refine And.intro ⟨by omega, by omega⟩ (And.intro ⟨by omega, by omega⟩ (And.intro ⟨⟨0, Nat.zero_le _⟩, trivial, rfl, ⟨rfl, rfl⟩, trivial⟩ ?_))
  rintro ⟨i, hi⟩
  dsimp only
  refine And.intro (fun h => ?_) (fun h => ?_)
  · have h := of_decide_eq_true h
    rw [hrl] at h
    refine And.intro ⟨?_⟩ ⟨⟨i + 1, by omega⟩, by show k + 1 - d.length - (i + 1) < k + 1 - d.length - i; omega, trivial, ?_, ⟨rfl, rfl⟩, trivial⟩
    · rw [hrl]; simp only [List.length_cons, List.length_nil]; omega
    · rw [List.replicate_succ]; rfl
  · have h := of_decide_eq_false h
    rw [hrl] at h
    have hp : padded d k = List.replicate i 48 ++ d := by
      unfold padded
      by_cases hdk : d.length ≤ k
      · rw [if_pos hdk, show k + 1 - d.length = i by omega]
      · rw [if_neg hdk, show i = 0 by omega]; rfl
    rw [hp] at hX
    have hl := hrl i
    clear hrl
    generalize (List.replicate i (48 : UInt8) ++ d) = p at *
    rw [slAB]
    simp only [Ob_iff, inI64, List.length_append, List.length_take, List.length_drop, List.length_cons, List.length_nil]
    refine And.intro (fun h1 => ?_) (fun h1 => ?_)
    · have h1 := of_decide_eq_true h1
      have e : pointed p k = p.take (p.length - k) ++ [46] ++ p.drop (p.length - k) := by unfold pointed; rw [if_neg (by omega)]
      rw [e] at hX
      refine ⟨by omega, by omega, by omega, by omega, by omega, by omega, fun h2 => ?_, fun h2 => ?_⟩
      · rw [if_pos (of_decide_eq_true h2)] at hX
        exact ⟨by omega, hX.symm⟩
      · rw [if_neg (of_decide_eq_false h2)] at hX
        rw [hX]; rfl
    · have h1 := of_decide_eq_false h1
      have e : pointed p k = p := by unfold pointed; rw [if_pos (by omega)]
      rw [e] at hX
      refine ⟨fun h2 => ?_, fun h2 => ?_⟩
      · rw [if_pos (of_decide_eq_true h2)] at hX
        exact ⟨by omega, hX.symm⟩
      · rw [if_neg (of_decide_eq_false h2)] at hX
        rw [hX]; rfl
theorem ok73 (h22 : Ok m 22 Cdigits) : Ok m 73 CtextR := fn_ok2 (cons_cons ok108 (cons_cons h22 cons_nil)) Tryz.func73 (by kernel_rfl) fun xs r hr hp => by
  unfold CtextR at hr
  split at hr
  · rename_i n s
    obtain ⟨ho, hr⟩ := Tr.run_need hr
    have e := Tr.run_ret hr
    subst e
    have hn := ho
    simp only [numberOk, decide_eq_true_eq] at hn
    obtain ⟨k, rfl⟩ : ∃ k : Nat, s = k := ⟨s.toNat, by omega⟩
    clear hr hp
    refine ⟨_, [(0, inv73 n (Lib.itoa (max n (-n))) k)], args_self _, of_nice (TextP n k (Lib.itoa (max n (-n))) (numText n k)) (by kernel_rfl) ?_⟩
    refine text_key ⟨hn.1, hn.2.1⟩ (by omega) (itoa_len (by omega) (by omega)) ?_
    unfold numText
    rw [if_pos ho, Int.toNat_natCast]
  · exact (Tr.run_fail hr).elim
noncomputable def inv39 (t : Ty) (n : Int) (v : Str) : Eng.Inv :=
  ⟨{ i : Nat // i ≤ v.length }, fun i => [(2, .ptr 2 0), (3, .ptr 3 0), (5, .str ([39] ++ dbl (v.take i.1))), (6, I i.1)], fun i => [(2, .box [.int .i64 t.k, .int .i64 t.l, .int .i64 t.s] false), (3, .box [.int .i64 n, .str v] false)], fun i => v.length - i.1⟩
noncomputable def CvalueTextR : Con
  | [v, x] => .need (v = aTy (tyOf v) ∧ x = aVal (vN x) (vS x) ∧ valWr (tyOf v) (vN x) (vS x)) (.ret (.str (valueText (tyOf v) (vN x) (vS x))))
  | _ => .fail
theorem ok39 (h22 : Ok m 22 Cdigits) : Ok m 39 CvalueTextR := fn_ok2 (cons_cons (ok73 h22) (cons_cons ok74 (cons_cons ok75 cons_nil))) Tryz.func39 (by kernel_rfl) fun xs r hr hp => by
  unfold CvalueTextR at hr
  split at hr
  · rename_i x y
    obtain ⟨⟨hv, hx, hw⟩, hr⟩ := Tr.run_need hr
    have e := Tr.run_ret hr
    subst e
    generalize tyOf x = t at *
    generalize vN y = n at *
    generalize vS y = v at *
    subst hv
    subst hx
    clear hr hp
    refine ⟨_, [(0, inv39 t n v)], args_self _, of_nice (((!decide (t.k = (0 : Int))) = true → Ob (numberOk n t.s = true) ∧ numText n t.s = valueText t n v) ∧ ((!decide (t.k = (0 : Int))) = false → Ob (List.length v ≤ (10000 : Nat)) ∧
  ((!isShown v) = true → Ob (List.length v ≤ (10000 : Nat)) ∧ Ob ([(88 : UInt8), (39 : UInt8)].length + List.length (hexText v) ≤ (9223372036854775807 : Nat)) ∧ Ob (([(88 :
  UInt8), (39 : UInt8)] ++ hexText v).length + [(39 : UInt8)].length ≤ (9223372036854775807 : Nat)) ∧ [(88 : UInt8), (39 : UInt8)] ++ hexText v ++ [(39 : UInt8)] = valueText t n
  v) ∧ ((!isShown v) = false → (∃ (j : { i : Nat // i ≤ List.length v }), True ∧ True ∧ [(39 : UInt8)] = [(39 : UInt8)] ++ dbl (List.take j.val v) ∧ (0 : Int) = (↑j.val : Int) ∧
  (t.k = t.k ∧ t.l = t.l ∧ t.s = t.s) ∧ (n = n ∧ v = v) ∧ True) ∧ ∀ (i : { i : Nat // i ≤ List.length v }), (decide ((↑i.val : Int) < (↑(List.length v) : Int)) = true → Ob ((0 :
  Int) ≤ (↑i.val : Int) ∧ (↑i.val : Int) < (↑(List.length v) : Int)) ∧ (decide ((↑(List.getD v i.val (0 : UInt8)).toNat : Int) = (39 : Int)) = true → Ob (([(39 : UInt8)] ++ dbl
  (List.take i.val v)).length + [(39 : UInt8)].length ≤ (9223372036854775807 : Nat)) ∧ Ob (inI64 ((↑i.val : Int) + (1 : Int))) ∧ Ob ((0 : Int) ≤ (↑i.val : Int) + (1 : Int) ∧
  (↑i.val : Int) + (1 : Int) ≤ (↑(List.length v) : Int)) ∧ Ob ((0 : Int) ≤ (↑i.val : Int) ∧ (↑i.val : Int) ≤ (↑i.val : Int) + (1 : Int)) ∧ Ob (([(39 : UInt8)] ++ dbl (List.take
  i.val v) ++ [(39 : UInt8)]).length + (List.take (((↑i.val : Int) + (1 : Int)).toNat - i.val) (List.drop i.val v)).length ≤ (9223372036854775807 : Nat)) ∧ Ob (inI64 ((↑i.val :
  Int) + (1 : Int))) ∧ ∃ (j : { i : Nat // i ≤ List.length v }), (List.length v - j.val).succ.le (List.length v - i.val) ∧ True ∧ True ∧ [(39 : UInt8)] ++ dbl (List.take i.val v)
  ++ [(39 : UInt8)] ++ List.take (((↑i.val : Int) + (1 : Int)).toNat - i.val) (List.drop i.val v) = [(39 : UInt8)] ++ dbl (List.take j.val v) ∧ (↑i.val : Int) + (1 : Int) =
  (↑j.val : Int) ∧ (t.k = t.k ∧ t.l = t.l ∧ t.s = t.s) ∧ (n = n ∧ v = v) ∧ True) ∧ (decide ((↑(List.getD v i.val (0 : UInt8)).toNat : Int) = (39 : Int)) = false → Ob (inI64
  ((↑i.val : Int) + (1 : Int))) ∧ Ob ((0 : Int) ≤ (↑i.val : Int) + (1 : Int) ∧ (↑i.val : Int) + (1 : Int) ≤ (↑(List.length v) : Int)) ∧ Ob ((0 : Int) ≤ (↑i.val : Int) ∧ (↑i.val :
  Int) ≤ (↑i.val : Int) + (1 : Int)) ∧ Ob (([(39 : UInt8)] ++ dbl (List.take i.val v)).length + (List.take (((↑i.val : Int) + (1 : Int)).toNat - i.val) (List.drop i.val
  v)).length ≤ (9223372036854775807 : Nat)) ∧ Ob (inI64 ((↑i.val : Int) + (1 : Int))) ∧ ∃ (j : { i : Nat // i ≤ List.length v }), (List.length v - j.val).succ.le (List.length v -
  i.val) ∧ True ∧ True ∧ [(39 : UInt8)] ++ dbl (List.take i.val v) ++ List.take (((↑i.val : Int) + (1 : Int)).toNat - i.val) (List.drop i.val v) = [(39 : UInt8)] ++ dbl
  (List.take j.val v) ∧ (↑i.val : Int) + (1 : Int) = (↑j.val : Int) ∧ (t.k = t.k ∧ t.l = t.l ∧ t.s = t.s) ∧ (n = n ∧ v = v) ∧ True)) ∧ (decide ((↑i.val : Int) < (↑(List.length v)
  : Int)) = false → Ob (([(39 : UInt8)] ++ dbl (List.take i.val v)).length + [(39 : UInt8)].length ≤ (9223372036854775807 : Nat)) ∧ [(39 : UInt8)] ++ dbl (List.take i.val v) ++
  [(39 : UInt8)] = valueText t n v)))) (by kernel_rfl) ?_⟩
    have hvl := hw.2
    have hxl := hexText_len v
    have hdl : ∀ i, (dbl (v.take i)).length ≤ 2 * v.length := fun i => by
      have := subst_len 39 39 39 (v.take i)
      rw [List.length_take] at this
      unfold dbl
      omega
    refine And.intro (fun h => ?_) (fun h => And.intro ⟨hvl⟩ (And.intro (fun h2 => ?_) (fun h2 => And.intro ⟨⟨0, Nat.zero_le _⟩, trivial, trivial, rfl, rfl, ⟨rfl, rfl, rfl⟩, ⟨rfl, rfl⟩, trivial⟩ ?_)))
    · have h : ¬ t.k = 0 := by simpa using h
      refine And.intro ⟨hw.1 h⟩ ?_
      unfold valueText
      rw [if_pos h]
    · have h : t.k = 0 := by simpa using h
      have h2 : isShown v = false := by simpa using h2
      simp only [Ob_iff, List.length_append, List.length_cons, List.length_nil]
      refine ⟨hvl, by omega, by omega, ?_⟩
      unfold valueText
      rw [if_neg (by simp [h]), if_neg (by simp [h2])]
    · have h : t.k = 0 := by simpa using h
      have h2 : isShown v = true := by simpa using h2
      rintro ⟨i, hi⟩
      dsimp only
      have hd1 := hdl i
      have hi1 : ((i : Int) + 1).toNat - i = 1 := by omega
      have step : ∀ h' : i < v.length, dbl (v.take (i + 1)) = dbl (v.take i) ++ (if v.getD i 0 = 39 then [39, 39] else [v.getD i 0]) ∧ List.take 1 (List.drop i v) = [v.getD i 0] := fun h' => by
        constructor
        · rw [getD_at h', List.take_succ_eq_append_getElem h']
          unfold dbl subst
          rw [List.flatMap_append]
          simp
        · rw [getD_at h', List.drop_eq_getElem_cons h']; rfl
      refine And.intro (fun h3 => ?_) (fun h3 => ?_)
      · have h' := lt_of_dec h3
        obtain ⟨s1, s2⟩ := step h'
        rw [hi1, s2]
        simp only [Ob_iff, inI64, List.length_append, List.length_cons, List.length_nil]
        refine And.intro (by omega) (And.intro (fun h4 => ?_) (fun h4 => ?_))
        · have h4 : v.getD i 0 = 39 := UInt8.toNat_inj.1 (by have := of_decide_eq_true h4; show _ = 39; omega)
          refine ⟨by omega, by omega, by omega, by omega, by omega, by omega, ⟨i + 1, h'⟩, sub_step h', trivial, trivial, ?_, by first | rfl | trivial, ⟨by first | rfl | trivial, by first | rfl | trivial, by first | rfl | trivial⟩, ⟨by first | rfl | trivial, by first | rfl | trivial⟩, trivial⟩
          rw [s1, if_pos h4, h4]
          simp
        · have h4 : ¬ v.getD i 0 = 39 := fun e => by
            have := of_decide_eq_false h4
            rw [e] at this
            exact this rfl
          refine ⟨by omega, by omega, by omega, by omega, by omega, ⟨i + 1, h'⟩, sub_step h', trivial, trivial, ?_, by first | rfl | trivial, ⟨by first | rfl | trivial, by first | rfl | trivial, by first | rfl | trivial⟩, ⟨by first | rfl | trivial, by first | rfl | trivial⟩, trivial⟩
          rw [s1, if_neg h4]
          simp
      · have := ge_of_dec h3 hi
        subst this
        rw [List.take_length] at hd1 ⊢
        refine And.intro ⟨?_⟩ ?_
        · simp only [List.length_append, List.length_cons, List.length_nil]; omega
        · unfold valueText
          rw [if_neg (by simp [h]), if_pos h2, replaceAll_one (by decide)]
          rfl
  · exact (Tr.run_fail hr).elim
end Go.Proofs.YtgcnbicoajjlaaaGreatDoor
end
section
set_option linter.unusedVariables false
set_option linter.unusedSimpArgs false
set_option maxRecDepth 100000
namespace Go.Proofs.YtgcnbicoajjlaaaGreatDoor
open Go Go.Eng Go.Tx
variable {m : Int}
theorem ok22z : Ok m 22 (CdigB 0) := by
  intro xs r hr
  exfalso
  unfold CdigB at hr
  split at hr
  · have := (Tr.run_need hr).1
    omega
  · exact (Tr.run_fail hr).elim
theorem ok22p : ∀ k : Nat, k ≤ 18 → Ok m 22 (CdigB ((10 : Int) ^ k))
  | 0, _ => ok22a 0 _ ok22z (.inr (by decide)) (by decide)
  | k + 1, h => by
    have hp := pow_le18 (i := k + 1) (by omega)
    refine ok22a _ _ (ok22p k (by omega)) (.inl ?_) (by omega)
    rw [Int.pow_succ]; omega
theorem ok22 : Ok m 22 Cdigits := ok22a _ _ (ok22p 18 (Nat.le_refl _)) (.inl (by decide)) (by decide)
noncomputable def CcopyInts : Con
  | [v] => .need (∃ l, eqv (slInts l) v ∧ l.length ≤ 1000000) (.ret (slInts (ints v)))
  | _ => .fail
theorem elsInts (l : List Int) : (elsOf l.length fun i => [AV.int IntKind.i64 (l.getD i 0)]) = l.map cInt := by
  apply List.ext_getElem
  · simp [elsOf]
  · intro i h1 h2
    simp only [elsOf, List.getElem_map, List.getElem_range, cInt]
    rw [List.getD_eq_getElem?_getD, List.getElem?_eq_getElem (by simpa using h2)]
    rfl
theorem elsOfs {α : Type} (enc : α → List AV) (d : α) (l : List α) : (elsOf l.length fun i => enc (l.getD i d)) = l.map enc := by
  apply List.ext_getElem
  · simp [elsOf]
  · intro i h1 h2
    simp only [elsOf, List.getElem_map, List.getElem_range]
    rw [List.getD_eq_getElem?_getD, List.getElem?_eq_getElem (by simpa using h2)]
    rfl
theorem map_getD {α : Type} (enc : α → List AV) (d : α) {l : List α} {i : Nat} (h : i < l.length) : (l.map enc).getD i [] = enc (l.getD i d) := by
  rw [List.getD_eq_getElem?_getD, List.getElem?_map, List.getElem?_eq_getElem h, List.getD_eq_getElem?_getD, List.getElem?_eq_getElem h]
  rfl
theorem take_step {α β : Type} (enc : α → β) (d : α) {l : List α} {i : Nat} (h : i < l.length) : (l.take i).map enc ++ [enc (l.getD i d)] = (l.take (i + 1)).map enc := by
  rw [List.take_succ_eq_append_getElem h, List.map_append, List.getD_eq_getElem?_getD, List.getElem?_eq_getElem h]
  rfl
theorem ok19 : Ok m 19 CcopyInts := fn_ok2 cons_nil Tryz.func19 (by kernel_rfl) fun xs r hr hp => by
  unfold CcopyInts at hr
  split at hr
  · rename_i v
    obtain ⟨⟨l, hl, hn⟩, hr⟩ := Tr.run_need hr
    have e := Tr.run_ret hr
    subst e
    rw [ints_eqv hl]
    refine ⟨[slInts l], [], ⟨.inr ⟨rfl, rfl, hl⟩, trivial⟩, of_nice (Ob ((elsOf l.length fun (i : Nat) => [AV.int IntKind.i64 (l.getD i (0 : Int))]).length ≤ (1048576 : Nat)) ∧ (elsOf l.length fun (i : Nat) => [AV.int IntKind.i64 (l.getD i (0 :
  Int))]).length = l.length ∧ ∀ (i : Nat), i < l.length → (elsOf l.length fun (i : Nat) => [AV.int IntKind.i64 (l.getD i (0 : Int))]).getD i [] = [AV.int IntKind.i64 (l.getD i (0
  : Int))]) (by kernel_rfl) ?_⟩
    rw [elsInts]
    exact ⟨⟨by rw [List.length_map]; omega⟩, by rw [List.length_map], fun i hi => row_get hi⟩
  · exact (Tr.run_fail hr).elim
noncomputable def inv27 (l : List Int) : Eng.Inv :=
  ⟨{ i : Nat // i ≤ l.length }, fun i => [(0, slInts l), (1, slInts l), (5, I i.1)], fun _ => [], fun i => l.length - i.1⟩
noncomputable def Cints : Con
  | [v, u] => .need (∃ l, eqv (slInts l) v ∧ eqv (slInts l) u ∧ l.length ≤ 1000000) (.ret (.prop true))
  | _ => .fail
theorem ok27 : Ok m 27 Cints := fn_ok2 cons_nil Tryz.func27 (by kernel_rfl) fun xs r hr hp => by
  unfold Cints at hr
  split at hr
  · rename_i v u
    obtain ⟨⟨l, hl, hl2, hn⟩, hr⟩ := Tr.run_need hr
    have e := Tr.run_ret hr
    subst e
    refine ⟨[slInts l, slInts l], [(0, inv27 l)], ⟨.inr ⟨rfl, rfl, hl⟩, .inr ⟨rfl, rfl, hl2⟩, trivial⟩, of_nice (((!decide ((↑l.length : Int) = (↑l.length : Int))) = true → false = true) ∧ ((!decide ((↑l.length : Int) = (↑l.length : Int))) = false → (∃ (j : { i : Nat // i ≤ l.length }),
  (l.length = l.length ∧ ∀ (i : Nat), i < l.length → [AV.int IntKind.i64 (l.getD i (0 : Int))] = [AV.int IntKind.i64 (l.getD i (0 : Int))]) ∧ (l.length = l.length ∧ ∀ (i : Nat),
  i < l.length → [AV.int IntKind.i64 (l.getD i (0 : Int))] = [AV.int IntKind.i64 (l.getD i (0 : Int))]) ∧ (0 : Int) = (↑j.val : Int) ∧ True) ∧ ∀ (i :
  { i : Nat // i ≤ l.length }), (decide ((↑i.val : Int) < (↑l.length : Int)) = true → Ob ((0 : Int) ≤ (↑i.val : Int) ∧ (↑i.val : Int) < (↑l.length : Int)) ∧ Ob ((0 : Int) ≤
  (↑i.val : Int) ∧ (↑i.val : Int) < (↑l.length : Int)) ∧ ((!decide (l.getD i.val (0 : Int) = l.getD i.val (0 : Int))) = true → false = true) ∧ ((!decide (l.getD i.val (0 : Int) =
  l.getD i.val (0 : Int))) = false → Ob (inI64 ((↑i.val : Int) + (1 : Int))) ∧ ∃ (j : { i : Nat // i ≤ l.length }), (l.length - j.val).succ.le (l.length - i.val) ∧ (l.length =
  l.length ∧ ∀ (i : Nat), i < l.length → [AV.int IntKind.i64 (l.getD i (0 : Int))] = [AV.int IntKind.i64 (l.getD i (0 : Int))]) ∧ (l.length = l.length ∧ ∀ (i : Nat), i < l.length
  → [AV.int IntKind.i64 (l.getD i (0 : Int))] = [AV.int IntKind.i64 (l.getD i (0 : Int))]) ∧ (↑i.val : Int) + (1 : Int) = (↑j.val : Int) ∧ True)) ∧ (decide ((↑i.val : Int) <
  (↑l.length : Int)) = false → true = true))) (by kernel_rfl) ?_⟩
    refine And.intro (fun h => by simp at h) (fun _ => And.intro ⟨⟨0, Nat.zero_le _⟩, ⟨rfl, fun _ _ => rfl⟩, ⟨rfl, fun _ _ => rfl⟩, rfl, trivial⟩ ?_)
    rintro ⟨i, hi⟩
    dsimp only
    refine And.intro (fun h => ?_) (fun _ => rfl)
    have h' := lt_of_dec h
    exact And.intro ⟨by omega, by omega⟩ (And.intro ⟨by omega, by omega⟩ (And.intro (fun h2 => by simp at h2) (fun _ => And.intro ⟨by constructor <;> omega⟩ ⟨⟨i + 1, h'⟩, sub_step h', ⟨rfl, fun _ _ => rfl⟩, ⟨rfl, fun _ _ => rfl⟩, rfl, trivial⟩)))
  · exact (Tr.run_fail hr).elim
noncomputable def startsI (s : Str) : List Int := (startsFrom true 0 s).map fun (a : Nat) => (a : Int)
noncomputable def inv12 (s : Str) : Eng.Inv :=
  ⟨{ i : Nat // i ≤ s.length }, fun i => [(0, .str s), (3, .row 60), (4, I i.1)], fun i => [(60, .row 3 1 ((startsI (s.take i.1)).map cInt) false)], fun i => s.length - i.1⟩
theorem startsFrom_len : ∀ (s : Str) (b : Bool) (a : Nat), (startsFrom b a s).length ≤ s.length
  | [], _, _ => Nat.le_refl _
  | c :: s, b, a => by
    have := startsFrom_len s (c == 10) (a + 1)
    simp only [startsFrom, List.length_append, List.length_cons]
    split <;> simp only [List.length_cons, List.length_nil] <;> omega
noncomputable def Cstarts : Con
  | [.str s] => .need (s.length ≤ 10000) (.ret (slInts (startsI s)))
  | _ => .fail
theorem ok12 : Ok m 12 Cstarts := fn_ok2 cons_nil Tryz.func12 (by kernel_rfl) fun xs r hr hp => by
  unfold Cstarts at hr
  split at hr
  · rename_i s
    obtain ⟨hl, hr⟩ := Tr.run_need hr
    have e := Tr.run_ret hr
    subst e
    refine ⟨_, [(0, inv12 s)], args_self _, of_nice ((∃ (j : { i : Nat // i ≤ List.length s }), s = s ∧ True ∧ (0 : Int) = (↑j.val : Int) ∧ List.map cInt (startsI (List.take j.val s)) = [] ∧ True) ∧ ∀ (i :
  { i : Nat // i ≤ List.length s }), (decide ((↑i.val : Int) < (↑(List.length s) : Int)) = true → Ob (decide ((↑i.val : Int) = (0 : Int)) = false → inI64 ((↑i.val : Int) - (1 :
  Int))) ∧ Ob (decide ((↑i.val : Int) = (0 : Int)) = false → (0 : Int) ≤ (↑i.val : Int) - (1 : Int) ∧ (↑i.val : Int) - (1 : Int) < (↑(List.length s) : Int)) ∧ ((decide ((↑i.val :
  Int) = (0 : Int)) || decide ((↑(List.getD s ((↑i.val : Int) - (1 : Int)).toNat (0 : UInt8)).toNat : Int) = (10 : Int))) = true → Ob ((List.map cInt (startsI (List.take i.val
  s))).length + (elsOf (1 : Nat) fun (i_1 : Nat) => List.take (1 : Nat) (List.drop (i_1 * (1 : Nat)) [AV.int IntKind.i64 (↑i.val : Int)])).length ≤ (1048576 : Nat)) ∧ Ob (inI64
  ((↑i.val : Int) + (1 : Int))) ∧ ∃ (j : { i : Nat // i ≤ List.length s }), (List.length s - j.val).succ.le (List.length s - i.val) ∧ s = s ∧ True ∧ (↑i.val : Int) + (1 : Int) =
  (↑j.val : Int) ∧ (List.map cInt (startsI (List.take i.val s)) ++ elsOf (1 : Nat) fun (i_1 : Nat) => List.take (1 : Nat) (List.drop (i_1 * (1 : Nat)) [AV.int IntKind.i64 (↑i.val
  : Int)])) = List.map cInt (startsI (List.take j.val s)) ∧ True) ∧ ((decide ((↑i.val : Int) = (0 : Int)) || decide ((↑(List.getD s ((↑i.val : Int) - (1 : Int)).toNat (0 :
  UInt8)).toNat : Int) = (10 : Int))) = false → Ob (inI64 ((↑i.val : Int) + (1 : Int))) ∧ ∃ (j : { i : Nat // i ≤ List.length s }), (List.length s - j.val).succ.le (List.length s
  - i.val) ∧ s = s ∧ True ∧ (↑i.val : Int) + (1 : Int) = (↑j.val : Int) ∧ List.map cInt (startsI (List.take i.val s)) = List.map cInt (startsI (List.take j.val s)) ∧ True)) ∧
  (decide ((↑i.val : Int) < (↑(List.length s) : Int)) = false → (List.map cInt (startsI (List.take i.val s))).length = (startsI s).length ∧ ∀ (i_1 : Nat), i_1 < (startsI
  s).length → (List.map cInt (startsI (List.take i.val s))).getD i_1 [] = [AV.int IntKind.i64 ((startsI s).getD i_1 (0 : Int))])) (by kernel_rfl) ?_⟩
    refine And.intro ⟨⟨0, Nat.zero_le _⟩, rfl, trivial, rfl, rfl, trivial⟩ ?_
    rintro ⟨i, hi⟩
    dsimp only
    have hn : ((i : Int) - 1).toNat = i - 1 := by omega
    rw [hn]
    refine And.intro (fun h => ?_) (fun h => ?_)
    · have h' := lt_of_dec h
      have hst := startsFrom_step (s := s) h'
      have hlen := startsFrom_len (s.take i) true 0
      rw [List.length_take] at hlen
      have hll : ((startsI (s.take i)).map cInt).length ≤ i := by
        unfold startsI
        rw [List.length_map, List.length_map]
        omega
      refine And.intro ⟨fun h2 => by constructor <;> omega⟩ (And.intro ⟨fun h2 => by have := of_decide_eq_false h2; omega⟩ (And.intro (fun h2 => ?_) (fun h2 => ?_)))
      · have h3 : i = 0 ∨ s.getD (i - 1) 0 = 10 := by
          simp only [Bool.or_eq_true, decide_eq_true_eq] at h2
          rcases h2 with h2 | h2
          · exact .inl (by omega)
          · exact .inr (UInt8.toNat_inj.1 (by show _ = 10; omega))
        rw [if_pos h3] at hst
        refine And.intro ⟨?_⟩ (And.intro ⟨by constructor <;> omega⟩ ⟨⟨i + 1, h'⟩, sub_step h', rfl, trivial, rfl, ?_, trivial⟩)
        · rw [show ∀ f, (elsOf 1 f).length = 1 from fun f => rfl]; omega
        · show _ = (startsI (s.take (i + 1))).map cInt
          unfold startsI
          rw [hst, List.map_append, List.map_append]
          rfl
      · have h3 : ¬ (i = 0 ∨ s.getD (i - 1) 0 = 10) := by
          simp only [Bool.or_eq_false_iff, decide_eq_false_iff_not] at h2
          rintro (h3 | h3)
          · exact h2.1 (by omega)
          · rw [h3] at h2; exact h2.2 rfl
        rw [if_neg h3, List.append_nil] at hst
        refine And.intro ⟨by constructor <;> omega⟩ ⟨⟨i + 1, h'⟩, sub_step h', rfl, trivial, rfl, ?_, trivial⟩
        show _ = (startsI (s.take (i + 1))).map cInt
        unfold startsI
        rw [hst]
    · have := ge_of_dec h hi
      subst this
      rw [List.take_length]
      exact ⟨by rw [List.length_map], fun i hi => row_get hi⟩
  · exact (Tr.run_fail hr).elim
noncomputable def inv8 (p : Prg) : Eng.Inv :=
  ⟨{ i : Nat // i ≤ p.ins.length }, fun i => [(1, .ptr 1 0), (2, .ptr 2 0), (3, .ptr 3 0), (4, I i.1)],
    fun i => [(1, bxPrg p), (2, .box [.nilS, .nilS, .nilS] false), (3, .box [.row 60, .row 61, .row 62] false), (60, .row 46 10 (p.ops.map cOpd) false), (61, .row 48 2 ((p.ins.take i.1).map cIns) false), (62, .row 58 4 (p.mons.map cMon) false)], fun i => p.ins.length - i.1⟩
noncomputable def Cown : Con
  | [v] => .need (∃ p : Prg, eqv (aPrg p) v ∧ p.ops.length ≤ 1000 ∧ p.ins.length ≤ 1000 ∧ p.mons.length ≤ 1000 ∧ ∀ x ∈ p.ins, x.args.length ≤ 1000) (.ret (aPrg (prgOf v)))
  | _ => .fail
theorem ok8 : Ok m 8 Cown := fn_ok2 (cons_cons ok19 cons_nil) Tryz.func8 (by kernel_rfl) fun xs r hr hp => by
  unfold Cown at hr
  split at hr
  · rename_i v
    obtain ⟨⟨p, hl, h1, h2, h3, h4⟩, hr⟩ := Tr.run_need hr
    have e := Tr.run_ret hr
    subst e
    rw [prg_eqv hl]
    refine ⟨[aPrg p], [(0, inv8 p)], prg_args hl _, of_nice (Ob ((elsOf p.ops.length fun (i : Nat) => cOpd (p.ops.getD i opd0)).length ≤ (1048576 : Nat)) ∧ Ob ((elsOf p.mons.length fun (i : Nat) => cMon (p.mons.getD i mon0)).length ≤
  (1048576 : Nat)) ∧ (∃ (j : { i : Nat // i ≤ p.ins.length }), True ∧ True ∧ True ∧ (0 : Int) = (↑j.val : Int) ∧ ((p.ops.length = p.ops.length ∧ ∀ (i : Nat), i < p.ops.length →
  cOpd (p.ops.getD i opd0) = cOpd (p.ops.getD i opd0)) ∧ (p.ins.length = p.ins.length ∧ ∀ (i : Nat), i < p.ins.length → cIns (p.ins.getD i ins0) = cIns (p.ins.getD i ins0)) ∧
  p.mons.length = p.mons.length ∧ ∀ (i : Nat), i < p.mons.length → cMon (p.mons.getD i mon0) = cMon (p.mons.getD i mon0)) ∧ (True ∧ True ∧ True) ∧ (True ∧ True ∧ True) ∧ (elsOf
  p.ops.length fun (i : Nat) => cOpd (p.ops.getD i opd0)) = List.map cOpd p.ops ∧ List.map cIns (List.take j.val p.ins) = [] ∧ (elsOf p.mons.length fun (i : Nat) => cMon
  (p.mons.getD i mon0)) = List.map cMon p.mons ∧ True) ∧ ∀ (i : { i : Nat // i ≤ p.ins.length }), (decide ((↑i.val : Int) < (↑p.ins.length : Int)) = true → Ob ((0 : Int) ≤
  (↑i.val : Int) ∧ (↑i.val : Int) < (↑p.ins.length : Int)) ∧ Ob ((0 : Int) ≤ (↑i.val : Int) ∧ (↑i.val : Int) < (↑p.ins.length : Int)) ∧ Ob (∃ (l : List Int), eqv (slInts l)
  (slInts (p.ins.getD i.val ins0).args) ∧ l.length ≤ (1000000 : Nat)) ∧ Ob ((List.map cIns (List.take i.val p.ins)).length + (elsOf (1 : Nat) fun (i_1 : Nat) => List.take (2 :
  Nat) (List.drop (i_1 * (2 : Nat)) [AV.int IntKind.i64 (p.ins.getD i.val ins0).op, slInts (ints (slInts (p.ins.getD i.val ins0).args))])).length ≤ (1048576 : Nat)) ∧ Ob (inI64
  ((↑i.val : Int) + (1 : Int))) ∧ ∃ (j : { i : Nat // i ≤ p.ins.length }), (p.ins.length - j.val).succ.le (p.ins.length - i.val) ∧ True ∧ True ∧ True ∧ (↑i.val : Int) + (1 : Int)
  = (↑j.val : Int) ∧ ((p.ops.length = p.ops.length ∧ ∀ (i : Nat), i < p.ops.length → cOpd (p.ops.getD i opd0) = cOpd (p.ops.getD i opd0)) ∧ (p.ins.length = p.ins.length ∧ ∀ (i :
  Nat), i < p.ins.length → cIns (p.ins.getD i ins0) = cIns (p.ins.getD i ins0)) ∧ p.mons.length = p.mons.length ∧ ∀ (i : Nat), i < p.mons.length → cMon (p.mons.getD i mon0) =
  cMon (p.mons.getD i mon0)) ∧ (True ∧ True ∧ True) ∧ (True ∧ True ∧ True) ∧ List.map cOpd p.ops = List.map cOpd p.ops ∧ (List.map cIns (List.take i.val p.ins) ++ elsOf (1 : Nat)
  fun (i_1 : Nat) => List.take (2 : Nat) (List.drop (i_1 * (2 : Nat)) [AV.int IntKind.i64 (p.ins.getD i.val ins0).op, slInts (ints (slInts (p.ins.getD i.val ins0).args))])) =
  List.map cIns (List.take j.val p.ins) ∧ List.map cMon p.mons = List.map cMon p.mons ∧ True) ∧ (decide ((↑i.val : Int) < (↑p.ins.length : Int)) = false → ((List.map cOpd
  p.ops).length = p.ops.length ∧ ∀ (i : Nat), i < p.ops.length → (List.map cOpd p.ops).getD i [] = cOpd (p.ops.getD i opd0)) ∧ ((List.map cIns (List.take i.val p.ins)).length =
  p.ins.length ∧ ∀ (i_1 : Nat), i_1 < p.ins.length → (List.map cIns (List.take i.val p.ins)).getD i_1 [] = cIns (p.ins.getD i_1 ins0)) ∧ (List.map cMon p.mons).length =
  p.mons.length ∧ ∀ (i : Nat), i < p.mons.length → (List.map cMon p.mons).getD i [] = cMon (p.mons.getD i mon0))) (by kernel_rfl) ?_⟩
    simp only [elsOfs, ints_sl, Ob_iff, inI64, List.length_map, true_and, and_true, implies_true]
    refine ⟨by omega, by omega, ⟨⟨0, Nat.zero_le _⟩, rfl, rfl⟩, ?_⟩
    rintro ⟨i, hi⟩
    dsimp only
    refine And.intro (fun h => ?_) (fun h => ?_)
    · have h' := lt_of_dec h
      have hm : p.ins.getD i ins0 ∈ p.ins := by rw [List.getD_eq_getElem?_getD, List.getElem?_eq_getElem h']; exact List.getElem_mem h'
      have hl1 : (List.map cIns (List.take i p.ins)).length ≤ 1000 := by rw [List.length_map, List.length_take]; omega
      refine ⟨⟨by omega, by omega⟩, ⟨by omega, by omega⟩, ⟨_, slInts_refl _, by have := h4 _ hm; omega⟩, ?_, ⟨by omega, by omega⟩, ⟨i + 1, h'⟩, sub_step h', rfl, ?_⟩
      · rw [show ∀ f, (elsOf 1 f).length = 1 from fun f => rfl, List.length_take]; omega
      · rw [← take_step cIns ins0 h']; rfl
    · have := ge_of_dec h hi
      subst this
      rw [List.take_length]
      exact ⟨fun i hi => map_getD cOpd opd0 hi, ⟨rfl, fun i hi => map_getD cIns ins0 hi⟩, fun i hi => map_getD cMon mon0 hi⟩
  · exact (Tr.run_fail hr).elim
noncomputable def fewOpd (o : Opd) : Bool := decide (o.name.length ≤ 100 ∧ o.base.length ≤ 100 ∧ o.v.length ≤ 600)
noncomputable def fewIns (x : Ins) : Bool := decide (x.args.length ≤ 6)
noncomputable def fewB (p : Prg) : Bool := decide (p.ops.length ≤ 28 ∧ p.ins.length ≤ 44 ∧ p.mons.length ≤ 9) && p.ops.all fewOpd && p.ins.all fewIns
noncomputable def inv4a (p : Prg) : Eng.Inv :=
  ⟨{ i : Nat // i ≤ p.ops.length ∧ ∀ k, k < i → fewOpd (p.ops.getD k opd0) = true }, fun i => [(1, .ptr 1 0), (3, I i.1)], fun _ => [(1, bxPrg p)], fun i => p.ops.length - i.1⟩
noncomputable def inv4b (p : Prg) : Eng.Inv :=
  ⟨{ i : Nat // i ≤ p.ins.length ∧ ∀ k, k < i → fewIns (p.ins.getD k ins0) = true }, fun i => [(1, .ptr 1 0), (5, I i.1)], fun _ => [(1, bxPrg p)], fun i => p.ins.length - i.1⟩
noncomputable def Cfew : Con
  | [v] => .need (∃ p : Prg, eqv (aPrg p) v) (.ret (.prop (fewB (prgOf v))))
  | _ => .fail
theorem ok4 : Ok m 4 Cfew := fn_ok2 cons_nil Tryz.func4 (by kernel_rfl) fun xs r hr hp => by
  unfold Cfew at hr
  split at hr
  · rename_i v
    obtain ⟨⟨p, hl⟩, hr⟩ := Tr.run_need hr
    have e := Tr.run_ret hr
    subst e
    have hb := prg_small hl hp.1
    rw [prg_eqv hl]
    refine ⟨[aPrg p], [(0, inv4a p), (2, inv4b p)], prg_args hl _, of_nice (((decide ((28 : Int) < (↑p.ops.length : Int)) || decide ((44 : Int) < (↑p.ins.length : Int)) || decide ((9 : Int) < (↑p.mons.length : Int))) = true → false = fewB p) ∧ ((decide
  ((28 : Int) < (↑p.ops.length : Int)) || decide ((44 : Int) < (↑p.ins.length : Int)) || decide ((9 : Int) < (↑p.mons.length : Int))) = false → (∃ (j :
  { i : Nat // i ≤ p.ops.length ∧ ∀ (k : Nat), k < i → fewOpd (p.ops.getD k opd0) = true }), True ∧ (0 : Int) = (↑j.val : Int) ∧ ((p.ops.length = p.ops.length ∧ ∀ (i : Nat), i <
  p.ops.length → cOpd (p.ops.getD i opd0) = cOpd (p.ops.getD i opd0)) ∧ (p.ins.length = p.ins.length ∧ ∀ (i : Nat), i < p.ins.length → cIns (p.ins.getD i ins0) = cIns (p.ins.getD
  i ins0)) ∧ p.mons.length = p.mons.length ∧ ∀ (i : Nat), i < p.mons.length → cMon (p.mons.getD i mon0) = cMon (p.mons.getD i mon0)) ∧ True) ∧ ∀ (i :
  { i : Nat // i ≤ p.ops.length ∧ ∀ (k : Nat), k < i → fewOpd (p.ops.getD k opd0) = true }), (decide ((↑i.val : Int) < (↑p.ops.length : Int)) = true → Ob ((0 : Int) ≤ (↑i.val :
  Int) ∧ (↑i.val : Int) < (↑p.ops.length : Int)) ∧ ((decide ((100 : Int) < (↑(List.length (p.ops.getD i.val opd0).name) : Int)) || decide ((100 : Int) < (↑(List.length
  (p.ops.getD i.val opd0).base) : Int)) || decide ((600 : Int) < (↑(List.length (p.ops.getD i.val opd0).v) : Int))) = true → false = fewB p) ∧ ((decide ((100 : Int) <
  (↑(List.length (p.ops.getD i.val opd0).name) : Int)) || decide ((100 : Int) < (↑(List.length (p.ops.getD i.val opd0).base) : Int)) || decide ((600 : Int) < (↑(List.length
  (p.ops.getD i.val opd0).v) : Int))) = false → Ob (inI64 ((↑i.val : Int) + (1 : Int))) ∧ ∃ (j :
  { i : Nat // i ≤ p.ops.length ∧ ∀ (k : Nat), k < i → fewOpd (p.ops.getD k opd0) = true }), (p.ops.length - j.val).succ.le (p.ops.length - i.val) ∧ True ∧ (↑i.val : Int) + (1 :
  Int) = (↑j.val : Int) ∧ ((p.ops.length = p.ops.length ∧ ∀ (i : Nat), i < p.ops.length → cOpd (p.ops.getD i opd0) = cOpd (p.ops.getD i opd0)) ∧ (p.ins.length = p.ins.length ∧ ∀
  (i : Nat), i < p.ins.length → cIns (p.ins.getD i ins0) = cIns (p.ins.getD i ins0)) ∧ p.mons.length = p.mons.length ∧ ∀ (i : Nat), i < p.mons.length → cMon (p.mons.getD i mon0)
  = cMon (p.mons.getD i mon0)) ∧ True)) ∧ (decide ((↑i.val : Int) < (↑p.ops.length : Int)) = false → (∃ (j :
  { i : Nat // i ≤ p.ins.length ∧ ∀ (k : Nat), k < i → fewIns (p.ins.getD k ins0) = true }), True ∧ (0 : Int) = (↑j.val : Int) ∧ ((p.ops.length = p.ops.length ∧ ∀ (i : Nat), i <
  p.ops.length → cOpd (p.ops.getD i opd0) = cOpd (p.ops.getD i opd0)) ∧ (p.ins.length = p.ins.length ∧ ∀ (i : Nat), i < p.ins.length → cIns (p.ins.getD i ins0) = cIns (p.ins.getD
  i ins0)) ∧ p.mons.length = p.mons.length ∧ ∀ (i : Nat), i < p.mons.length → cMon (p.mons.getD i mon0) = cMon (p.mons.getD i mon0)) ∧ True) ∧ ∀ (i :
  { i : Nat // i ≤ p.ins.length ∧ ∀ (k : Nat), k < i → fewIns (p.ins.getD k ins0) = true }), (decide ((↑i.val : Int) < (↑p.ins.length : Int)) = true → Ob ((0 : Int) ≤ (↑i.val :
  Int) ∧ (↑i.val : Int) < (↑p.ins.length : Int)) ∧ (decide ((6 : Int) < (↑(p.ins.getD i.val ins0).args.length : Int)) = true → false = fewB p) ∧ (decide ((6 : Int) <
  (↑(p.ins.getD i.val ins0).args.length : Int)) = false → Ob (inI64 ((↑i.val : Int) + (1 : Int))) ∧ ∃ (j :
  { i : Nat // i ≤ p.ins.length ∧ ∀ (k : Nat), k < i → fewIns (p.ins.getD k ins0) = true }), (p.ins.length - j.val).succ.le (p.ins.length - i.val) ∧ True ∧ (↑i.val : Int) + (1 :
  Int) = (↑j.val : Int) ∧ ((p.ops.length = p.ops.length ∧ ∀ (i : Nat), i < p.ops.length → cOpd (p.ops.getD i opd0) = cOpd (p.ops.getD i opd0)) ∧ (p.ins.length = p.ins.length ∧ ∀
  (i : Nat), i < p.ins.length → cIns (p.ins.getD i ins0) = cIns (p.ins.getD i ins0)) ∧ p.mons.length = p.mons.length ∧ ∀ (i : Nat), i < p.mons.length → cMon (p.mons.getD i mon0)
  = cMon (p.mons.getD i mon0)) ∧ True)) ∧ (decide ((↑i.val : Int) < (↑p.ins.length : Int)) = false → true = fewB p)))) (by kernel_rfl) ?_⟩
    unfold maxLen at hb
    simp only [Ob_iff, inI64, true_and, and_true, implies_true]
    refine And.intro (fun h => ?_) (fun h => And.intro ⟨⟨0, Nat.zero_le _, below_zero⟩, rfl⟩ ?_)
    · simp only [Bool.or_eq_true, decide_eq_true_eq] at h
      symm
      unfold fewB
      rw [decide_eq_false (by omega)]
      rfl
    · simp only [Bool.or_eq_false_iff, decide_eq_false_iff_not] at h
      rintro ⟨i, hi, hk⟩
      dsimp only
      refine And.intro (fun h1 => ?_) (fun h1 => And.intro ⟨⟨0, Nat.zero_le _, below_zero⟩, rfl⟩ ?_)
      · have h' := lt_of_dec h1
        have hm : p.ops.getD i opd0 ∈ p.ops := by rw [List.getD_eq_getElem?_getD, List.getElem?_eq_getElem h']; exact List.getElem_mem h'
        refine ⟨⟨by omega, by omega⟩, fun h2 => ?_, fun h2 => ⟨⟨by omega, by omega⟩, ⟨i + 1, h', below_succ hk ?_⟩, sub_step h', rfl⟩⟩
        · simp only [Bool.or_eq_true, decide_eq_true_eq] at h2
          have h3 : p.ops.all fewOpd = false := List.all_eq_false.2 ⟨_, hm, fun h4 => by
            simp only [fewOpd, decide_eq_true_eq] at h4
            omega⟩
          unfold fewB
          rw [h3]
          simp
        · simp only [Bool.or_eq_false_iff, decide_eq_false_iff_not] at h2
          simp only [fewOpd, decide_eq_true_eq]
          omega
      · have := ge_of_dec h1 hi
        subst this
        have hops : p.ops.all fewOpd = true := by
          rw [List.all_eq_true]
          intro x hx
          obtain ⟨k, hk1, rfl⟩ := List.getElem_of_mem hx
          have := hk k hk1
          rw [List.getD_eq_getElem?_getD, List.getElem?_eq_getElem hk1] at this
          exact this
        clear hk hi h1
        rintro ⟨i, hi, hk⟩
        dsimp only
        refine And.intro (fun h1 => ?_) (fun h1 => ?_)
        · have h' := lt_of_dec h1
          have hm : p.ins.getD i ins0 ∈ p.ins := by rw [List.getD_eq_getElem?_getD, List.getElem?_eq_getElem h']; exact List.getElem_mem h'
          refine ⟨⟨by omega, by omega⟩, fun h2 => ?_, fun h2 => ⟨⟨by omega, by omega⟩, ⟨i + 1, h', below_succ hk ?_⟩, sub_step h', rfl⟩⟩
          · have h2 := of_decide_eq_true h2
            have h3 : p.ins.all fewIns = false := List.all_eq_false.2 ⟨_, hm, fun h4 => by
              simp only [fewIns, decide_eq_true_eq] at h4
              omega⟩
            unfold fewB
            rw [h3]
            simp
          · have h2 := of_decide_eq_false h2
            simp only [fewIns, decide_eq_true_eq]
            omega
        · have := ge_of_dec h1 hi
          subst this
          have hins : p.ins.all fewIns = true := by
            rw [List.all_eq_true]
            intro x hx
            obtain ⟨k, hk1, rfl⟩ := List.getElem_of_mem hx
            have := hk k hk1
            rw [List.getD_eq_getElem?_getD, List.getElem?_eq_getElem hk1] at this
            exact this
          unfold fewB
          rw [hops, hins, decide_eq_true (by omega)]
          rfl
  · exact (Tr.run_fail hr).elim
noncomputable def inv11a (p : Prg) : Eng.Inv :=
  ⟨{ i : Nat // i ≤ p.ops.length }, fun i => [(2, .ptr 2 0), (3, .ptr 3 0), (5, I i.1)], fun _ => [(2, bxPrg p), (3, bxPrg p)], fun i => p.ops.length - i.1⟩
noncomputable def inv11b (p : Prg) : Eng.Inv :=
  ⟨{ i : Nat // i ≤ p.ins.length }, fun i => [(2, .ptr 2 0), (3, .ptr 3 0), (6, I i.1)], fun _ => [(2, bxPrg p), (3, bxPrg p)], fun i => p.ins.length - i.1⟩
noncomputable def inv11c (p : Prg) : Eng.Inv :=
  ⟨{ i : Nat // i ≤ p.mons.length }, fun i => [(2, .ptr 2 0), (3, .ptr 3 0), (7, I i.1)], fun _ => [(2, bxPrg p), (3, bxPrg p)], fun i => p.mons.length - i.1⟩
noncomputable def Csame : Con
  | [v, u] => .need (∃ p : Prg, eqv (aPrg p) v ∧ eqv (aPrg p) u ∧ p.ops.length ≤ 1000 ∧ p.ins.length ≤ 1000 ∧ p.mons.length ≤ 1000 ∧ ∀ x ∈ p.ins, x.args.length ≤ 1000) (.ret (.prop true))
  | _ => .fail
theorem ok11 : Ok m 11 Csame := fn_ok2 (cons_cons ok27 cons_nil) Tryz.func11 (by kernel_rfl) fun xs r hr hp => by
  unfold Csame at hr
  split at hr
  · rename_i v u
    obtain ⟨⟨p, hl, hl2, h1, h2, h3, h4⟩, hr⟩ := Tr.run_need hr
    have e := Tr.run_ret hr
    subst e
    refine ⟨[aPrg p, aPrg p], [(0, inv11a p), (2, inv11b p), (4, inv11c p)], ⟨.inr ⟨rfl, rfl, hl⟩, .inr ⟨rfl, rfl, hl2⟩, trivial⟩, of_nice (((!decide ((↑p.ops.length : Int) = (↑p.ops.length : Int)) || !decide ((↑p.ins.length : Int) = (↑p.ins.length : Int)) || !decide ((↑p.mons.length : Int) = (↑p.mons.length :
  Int))) = true → false = true) ∧ ((!decide ((↑p.ops.length : Int) = (↑p.ops.length : Int)) || !decide ((↑p.ins.length : Int) = (↑p.ins.length : Int)) || !decide ((↑p.mons.length
  : Int) = (↑p.mons.length : Int))) = false → (∃ (j : { i : Nat // i ≤ p.ops.length }), True ∧ True ∧ (0 : Int) = (↑j.val : Int) ∧ ((p.ops.length = p.ops.length ∧ ∀ (i : Nat), i
  < p.ops.length → cOpd (p.ops.getD i opd0) = cOpd (p.ops.getD i opd0)) ∧ (p.ins.length = p.ins.length ∧ ∀ (i : Nat), i < p.ins.length → cIns (p.ins.getD i ins0) = cIns
  (p.ins.getD i ins0)) ∧ p.mons.length = p.mons.length ∧ ∀ (i : Nat), i < p.mons.length → cMon (p.mons.getD i mon0) = cMon (p.mons.getD i mon0)) ∧ ((p.ops.length = p.ops.length ∧
  ∀ (i : Nat), i < p.ops.length → cOpd (p.ops.getD i opd0) = cOpd (p.ops.getD i opd0)) ∧ (p.ins.length = p.ins.length ∧ ∀ (i : Nat), i < p.ins.length → cIns (p.ins.getD i ins0) =
  cIns (p.ins.getD i ins0)) ∧ p.mons.length = p.mons.length ∧ ∀ (i : Nat), i < p.mons.length → cMon (p.mons.getD i mon0) = cMon (p.mons.getD i mon0)) ∧ True) ∧ ∀ (i :
  { i : Nat // i ≤ p.ops.length }), (decide ((↑i.val : Int) < (↑p.ops.length : Int)) = true → Ob ((0 : Int) ≤ (↑i.val : Int) ∧ (↑i.val : Int) < (↑p.ops.length : Int)) ∧ Ob ((0 :
  Int) ≤ (↑i.val : Int) ∧ (↑i.val : Int) < (↑p.ops.length : Int)) ∧ ((!(decide ((p.ops.getD i.val opd0).name = (p.ops.getD i.val opd0).name) && (decide ((p.ops.getD i.val
  opd0).kind = (p.ops.getD i.val opd0).kind) && (decide ((p.ops.getD i.val opd0).ty.k = (p.ops.getD i.val opd0).ty.k) && (decide ((p.ops.getD i.val opd0).ty.l = (p.ops.getD i.val
  opd0).ty.l) && (decide ((p.ops.getD i.val opd0).ty.s = (p.ops.getD i.val opd0).ty.s) && (decide ((p.ops.getD i.val opd0).n = (p.ops.getD i.val opd0).n) && (decide ((p.ops.getD
  i.val opd0).v = (p.ops.getD i.val opd0).v) && (decide ((p.ops.getD i.val opd0).base = (p.ops.getD i.val opd0).base) && (decide ((p.ops.getD i.val opd0).off = (p.ops.getD i.val
  opd0).off) && (decide ((p.ops.getD i.val opd0).tgt = (p.ops.getD i.val opd0).tgt) && true))))))))))) = true → false = true) ∧ ((!(decide ((p.ops.getD i.val opd0).name =
  (p.ops.getD i.val opd0).name) && (decide ((p.ops.getD i.val opd0).kind = (p.ops.getD i.val opd0).kind) && (decide ((p.ops.getD i.val opd0).ty.k = (p.ops.getD i.val opd0).ty.k)
  && (decide ((p.ops.getD i.val opd0).ty.l = (p.ops.getD i.val opd0).ty.l) && (decide ((p.ops.getD i.val opd0).ty.s = (p.ops.getD i.val opd0).ty.s) && (decide ((p.ops.getD i.val
  opd0).n = (p.ops.getD i.val opd0).n) && (decide ((p.ops.getD i.val opd0).v = (p.ops.getD i.val opd0).v) && (decide ((p.ops.getD i.val opd0).base = (p.ops.getD i.val opd0).base)
  && (decide ((p.ops.getD i.val opd0).off = (p.ops.getD i.val opd0).off) && (decide ((p.ops.getD i.val opd0).tgt = (p.ops.getD i.val opd0).tgt) && true))))))))))) = false → Ob
  (inI64 ((↑i.val : Int) + (1 : Int))) ∧ ∃ (j : { i : Nat // i ≤ p.ops.length }), (p.ops.length - j.val).succ.le (p.ops.length - i.val) ∧ True ∧ True ∧ (↑i.val : Int) + (1 : Int)
  = (↑j.val : Int) ∧ ((p.ops.length = p.ops.length ∧ ∀ (i : Nat), i < p.ops.length → cOpd (p.ops.getD i opd0) = cOpd (p.ops.getD i opd0)) ∧ (p.ins.length = p.ins.length ∧ ∀ (i :
  Nat), i < p.ins.length → cIns (p.ins.getD i ins0) = cIns (p.ins.getD i ins0)) ∧ p.mons.length = p.mons.length ∧ ∀ (i : Nat), i < p.mons.length → cMon (p.mons.getD i mon0) =
  cMon (p.mons.getD i mon0)) ∧ ((p.ops.length = p.ops.length ∧ ∀ (i : Nat), i < p.ops.length → cOpd (p.ops.getD i opd0) = cOpd (p.ops.getD i opd0)) ∧ (p.ins.length = p.ins.length
  ∧ ∀ (i : Nat), i < p.ins.length → cIns (p.ins.getD i ins0) = cIns (p.ins.getD i ins0)) ∧ p.mons.length = p.mons.length ∧ ∀ (i : Nat), i < p.mons.length → cMon (p.mons.getD i
  mon0) = cMon (p.mons.getD i mon0)) ∧ True)) ∧ (decide ((↑i.val : Int) < (↑p.ops.length : Int)) = false → (∃ (j : { i : Nat // i ≤ p.ins.length }), True ∧ True ∧ (0 : Int) =
  (↑j.val : Int) ∧ ((p.ops.length = p.ops.length ∧ ∀ (i : Nat), i < p.ops.length → cOpd (p.ops.getD i opd0) = cOpd (p.ops.getD i opd0)) ∧ (p.ins.length = p.ins.length ∧ ∀ (i :
  Nat), i < p.ins.length → cIns (p.ins.getD i ins0) = cIns (p.ins.getD i ins0)) ∧ p.mons.length = p.mons.length ∧ ∀ (i : Nat), i < p.mons.length → cMon (p.mons.getD i mon0) =
  cMon (p.mons.getD i mon0)) ∧ ((p.ops.length = p.ops.length ∧ ∀ (i : Nat), i < p.ops.length → cOpd (p.ops.getD i opd0) = cOpd (p.ops.getD i opd0)) ∧ (p.ins.length = p.ins.length
  ∧ ∀ (i : Nat), i < p.ins.length → cIns (p.ins.getD i ins0) = cIns (p.ins.getD i ins0)) ∧ p.mons.length = p.mons.length ∧ ∀ (i : Nat), i < p.mons.length → cMon (p.mons.getD i
  mon0) = cMon (p.mons.getD i mon0)) ∧ True) ∧ ∀ (i : { i : Nat // i ≤ p.ins.length }), (decide ((↑i.val : Int) < (↑p.ins.length : Int)) = true → Ob ((0 : Int) ≤ (↑i.val : Int) ∧
  (↑i.val : Int) < (↑p.ins.length : Int)) ∧ Ob ((0 : Int) ≤ (↑i.val : Int) ∧ (↑i.val : Int) < (↑p.ins.length : Int)) ∧ Ob ((!decide ((p.ins.getD i.val ins0).op = (p.ins.getD
  i.val ins0).op)) = false → (0 : Int) ≤ (↑i.val : Int) ∧ (↑i.val : Int) < (↑p.ins.length : Int)) ∧ Ob ((!decide ((p.ins.getD i.val ins0).op = (p.ins.getD i.val ins0).op)) =
  false → (0 : Int) ≤ (↑i.val : Int) ∧ (↑i.val : Int) < (↑p.ins.length : Int)) ∧ Ob ((!decide ((p.ins.getD i.val ins0).op = (p.ins.getD i.val ins0).op)) = false → ∃ (l : List
  Int), eqv (slInts l) (slInts (p.ins.getD i.val ins0).args) ∧ eqv (slInts l) (slInts (p.ins.getD i.val ins0).args) ∧ l.length ≤ (1000000 : Nat)) ∧ ((!decide ((p.ins.getD i.val
  ins0).op = (p.ins.getD i.val ins0).op) || !true) = true → false = true) ∧ ((!decide ((p.ins.getD i.val ins0).op = (p.ins.getD i.val ins0).op) || !true) = false → Ob (inI64
  ((↑i.val : Int) + (1 : Int))) ∧ ∃ (j : { i : Nat // i ≤ p.ins.length }), (p.ins.length - j.val).succ.le (p.ins.length - i.val) ∧ True ∧ True ∧ (↑i.val : Int) + (1 : Int) =
  (↑j.val : Int) ∧ ((p.ops.length = p.ops.length ∧ ∀ (i : Nat), i < p.ops.length → cOpd (p.ops.getD i opd0) = cOpd (p.ops.getD i opd0)) ∧ (p.ins.length = p.ins.length ∧ ∀ (i :
  Nat), i < p.ins.length → cIns (p.ins.getD i ins0) = cIns (p.ins.getD i ins0)) ∧ p.mons.length = p.mons.length ∧ ∀ (i : Nat), i < p.mons.length → cMon (p.mons.getD i mon0) =
  cMon (p.mons.getD i mon0)) ∧ ((p.ops.length = p.ops.length ∧ ∀ (i : Nat), i < p.ops.length → cOpd (p.ops.getD i opd0) = cOpd (p.ops.getD i opd0)) ∧ (p.ins.length = p.ins.length
  ∧ ∀ (i : Nat), i < p.ins.length → cIns (p.ins.getD i ins0) = cIns (p.ins.getD i ins0)) ∧ p.mons.length = p.mons.length ∧ ∀ (i : Nat), i < p.mons.length → cMon (p.mons.getD i
  mon0) = cMon (p.mons.getD i mon0)) ∧ True)) ∧ (decide ((↑i.val : Int) < (↑p.ins.length : Int)) = false → (∃ (j : { i : Nat // i ≤ p.mons.length }), True ∧ True ∧ (0 : Int) =
  (↑j.val : Int) ∧ ((p.ops.length = p.ops.length ∧ ∀ (i : Nat), i < p.ops.length → cOpd (p.ops.getD i opd0) = cOpd (p.ops.getD i opd0)) ∧ (p.ins.length = p.ins.length ∧ ∀ (i :
  Nat), i < p.ins.length → cIns (p.ins.getD i ins0) = cIns (p.ins.getD i ins0)) ∧ p.mons.length = p.mons.length ∧ ∀ (i : Nat), i < p.mons.length → cMon (p.mons.getD i mon0) =
  cMon (p.mons.getD i mon0)) ∧ ((p.ops.length = p.ops.length ∧ ∀ (i : Nat), i < p.ops.length → cOpd (p.ops.getD i opd0) = cOpd (p.ops.getD i opd0)) ∧ (p.ins.length = p.ins.length
  ∧ ∀ (i : Nat), i < p.ins.length → cIns (p.ins.getD i ins0) = cIns (p.ins.getD i ins0)) ∧ p.mons.length = p.mons.length ∧ ∀ (i : Nat), i < p.mons.length → cMon (p.mons.getD i
  mon0) = cMon (p.mons.getD i mon0)) ∧ True) ∧ ∀ (i : { i : Nat // i ≤ p.mons.length }), (decide ((↑i.val : Int) < (↑p.mons.length : Int)) = true → Ob ((0 : Int) ≤ (↑i.val : Int)
  ∧ (↑i.val : Int) < (↑p.mons.length : Int)) ∧ Ob ((0 : Int) ≤ (↑i.val : Int) ∧ (↑i.val : Int) < (↑p.mons.length : Int)) ∧ ((!(decide ((p.mons.getD i.val mon0).fr = (p.mons.getD
  i.val mon0).fr) && (decide ((p.mons.getD i.val mon0).to = (p.mons.getD i.val mon0).to) && (decide ((p.mons.getD i.val mon0).ex = (p.mons.getD i.val mon0).ex) && (decide
  ((p.mons.getD i.val mon0).hd = (p.mons.getD i.val mon0).hd) && true))))) = true → false = true) ∧ ((!(decide ((p.mons.getD i.val mon0).fr = (p.mons.getD i.val mon0).fr) &&
  (decide ((p.mons.getD i.val mon0).to = (p.mons.getD i.val mon0).to) && (decide ((p.mons.getD i.val mon0).ex = (p.mons.getD i.val mon0).ex) && (decide ((p.mons.getD i.val
  mon0).hd = (p.mons.getD i.val mon0).hd) && true))))) = false → Ob (inI64 ((↑i.val : Int) + (1 : Int))) ∧ ∃ (j : { i : Nat // i ≤ p.mons.length }), (p.mons.length -
  j.val).succ.le (p.mons.length - i.val) ∧ True ∧ True ∧ (↑i.val : Int) + (1 : Int) = (↑j.val : Int) ∧ ((p.ops.length = p.ops.length ∧ ∀ (i : Nat), i < p.ops.length → cOpd
  (p.ops.getD i opd0) = cOpd (p.ops.getD i opd0)) ∧ (p.ins.length = p.ins.length ∧ ∀ (i : Nat), i < p.ins.length → cIns (p.ins.getD i ins0) = cIns (p.ins.getD i ins0)) ∧
  p.mons.length = p.mons.length ∧ ∀ (i : Nat), i < p.mons.length → cMon (p.mons.getD i mon0) = cMon (p.mons.getD i mon0)) ∧ ((p.ops.length = p.ops.length ∧ ∀ (i : Nat), i <
  p.ops.length → cOpd (p.ops.getD i opd0) = cOpd (p.ops.getD i opd0)) ∧ (p.ins.length = p.ins.length ∧ ∀ (i : Nat), i < p.ins.length → cIns (p.ins.getD i ins0) = cIns (p.ins.getD
  i ins0)) ∧ p.mons.length = p.mons.length ∧ ∀ (i : Nat), i < p.mons.length → cMon (p.mons.getD i mon0) = cMon (p.mons.getD i mon0)) ∧ True)) ∧ (decide ((↑i.val : Int) <
  (↑p.mons.length : Int)) = false → true = true))))) (by kernel_rfl) ?_⟩
    simp only [Ob_iff, inI64, decide_true, Bool.not_true, Bool.or_self, Bool.false_eq_true, false_implies, true_implies, true_and, and_true, implies_true]
    simp only [Bool.and_self, Bool.not_true, Bool.false_eq_true, false_implies, true_implies, true_and]
    refine ⟨⟨⟨0, Nat.zero_le _⟩, rfl⟩, ?_⟩
    rintro ⟨i, hi⟩
    dsimp only
    refine And.intro (fun h => ?_) (fun h => And.intro ⟨⟨0, Nat.zero_le _⟩, rfl⟩ ?_)
    · have h' := lt_of_dec h
      exact ⟨⟨by omega, by omega⟩, ⟨by omega, by omega⟩, ⟨by omega, by omega⟩, ⟨i + 1, h'⟩, sub_step h', rfl⟩
    · clear h hi
      rintro ⟨i, hi⟩
      dsimp only
      refine And.intro (fun h => ?_) (fun h => And.intro ⟨⟨0, Nat.zero_le _⟩, rfl⟩ ?_)
      · have h' := lt_of_dec h
        have hm : p.ins.getD i ins0 ∈ p.ins := by rw [List.getD_eq_getElem?_getD, List.getElem?_eq_getElem h']; exact List.getElem_mem h'
        exact ⟨⟨by omega, by omega⟩, ⟨by omega, by omega⟩, ⟨by omega, by omega⟩, ⟨by omega, by omega⟩, ⟨_, slInts_refl _, slInts_refl _, by have := h4 _ hm; omega⟩, ⟨by omega, by omega⟩, ⟨i + 1, h'⟩, sub_step h', rfl⟩
      · clear h hi
        rintro ⟨i, hi⟩
        dsimp only
        intro h
        have h' := lt_of_dec h
        exact ⟨⟨by omega, by omega⟩, ⟨by omega, by omega⟩, ⟨by omega, by omega⟩, ⟨i + 1, h'⟩, sub_step h', rfl⟩
  · exact (Tr.run_fail hr).elim
end Go.Proofs.YtgcnbicoajjlaaaGreatDoor
end
section
set_option linter.unusedVariables false
set_option linter.unusedSimpArgs false
set_option maxRecDepth 100000
namespace Go.Proofs.YtgcnbicoajjlaaaGreatDoor
open Go Go.Eng Go.Tx
variable {m : Int}
theorem named_get : ∀ {l : List Opd} {s : Str}, 0 ≤ named l s → (l.getD (named l s).toNat opd0).name = s
  | [], s, h => by simp [named] at h
  | o :: r, s, h => by
    unfold named at h ⊢
    by_cases ho : o.name = s
    · rw [if_pos ho]; exact ho
    · rw [if_neg ho] at h ⊢
      by_cases hn : named r s < 0
      · rw [if_pos hn] at h; omega
      · rw [if_neg hn, show (named r s + 1).toNat = (named r s).toNat + 1 by omega, List.getD_cons_succ]
        exact named_get (by omega)
theorem named_hit : ∀ {l : List Opd} {s : Str} {i : Nat}, i < l.length → (l.getD i opd0).name = s → 0 ≤ named l s ∧ named l s ≤ (i : Int)
  | [], s, i, hi, _ => by simp at hi
  | o :: r, s, 0, hi, h => by
    have h : o.name = s := h
    unfold named
    rw [if_pos h]
    omega
  | o :: r, s, i + 1, hi, h => by
    rw [List.getD_cons_succ] at h
    have ih := named_hit (by simpa using hi) h
    unfold named
    split
    · omega
    · rw [if_neg (by omega)]
      omega
theorem value_facts {t : Ty} {n : Int} {v : Str} (h : valueErr t n v = 0) : (t.k ≠ 0 → numberOk n t.s = true ∧ v = []) ∧ (t.k = 0 → (v.length : Int) = t.l) := by
  unfold valueErr at h
  split at h
  · contradiction
  · rename_i ht
    have ht : typeErr t = 0 := by simpa using ht
    split at h
    · cases h
    · rename_i hk4
      split at h
      · cases h
      · rename_i hnv
        constructor
        · intro hk
          have hv : v = [] := by
            cases v with
            | nil => rfl
            | cons c v => exact absurd (.inr ⟨hk, by simp⟩) hnv
          refine ⟨?_, hv⟩
          rw [if_neg hk] at h
          have hb : -most t.l ≤ n ∧ n ≤ most t.l := by
            by_cases hb : -most t.l ≤ n ∧ n ≤ most t.l
            · exact hb
            · rw [if_neg hb] at h; cases h
          obtain ⟨q1, q2, q3, q4⟩ := type_ok ht
          have h13 : 1 ≤ t.k ∧ t.k ≤ 3 := by omega
          rw [if_pos h13] at q4
          have hmost := most_le (q3 h13.1 h13.2)
          have := q3 h13.1 h13.2
          simp only [numberOk, decide_eq_true_eq]
          omega
        · intro hk
          rw [if_pos hk] at h
          by_cases hl : (v.length : Int) = t.l
          · exact hl
          · rw [if_neg hl] at h; cases h
theorem opdOk_of {p : Prg} (hV : Valid p) {i : Nat} (hi : i < p.ops.length) : OpdOk (p.ops.getD i opd0) := by
  have h : AllRight p := hV.ops
  have R := opRight (h i hi)
  refine ⟨R.name, R.k0, R.k5, R.extra, R.ty, R.val, fun hk => ?_, fun hk => ?_⟩
  · obtain ⟨b1, b2, b3, b4, b5⟩ := R.base hk
    have hj : (named p.ops (p.ops.getD i opd0).base).toNat < p.ops.length := by omega
    have hn := (opRight (h _ hj)).name
    rw [named_get b1] at hn
    refine ⟨hn, b4, ?_⟩
    by_cases hk2 : (p.ops.getD i opd0).kind = 2
    · rw [if_pos hk2] at b5; omega
    · rw [if_neg hk2] at b5 b3
      have t1 := size_facts (R.ty (by unfold isData; simp only [decide_eq_true_eq]; omega)).1
      have t2 := size_facts ((opRight (h _ hj)).ty (by unfold isData; simp only [decide_eq_true_eq]; omega)).1
      omega
  · have := R.tgt hk
    have hn := hV.nins
    omega
theorem mem_getD {α : Type} {l : List α} {d x : α} (h : x ∈ l) : ∃ i, i < l.length ∧ l.getD i d = x := by
  obtain ⟨i, hi, rfl⟩ := List.getElem_of_mem h
  exact ⟨i, hi, by rw [List.getD_eq_getElem?_getD, List.getElem?_eq_getElem hi]; rfl⟩
theorem getD_mem {α : Type} {l : List α} {d : α} {i : Nat} (h : i < l.length) : l.getD i d ∈ l := by
  rw [List.getD_eq_getElem?_getD, List.getElem?_eq_getElem h]
  exact List.getElem_mem h
theorem roles_len : ∀ k : Nat, k < 19 → (roles ((k : Nat) : Int)).length ≤ 3 := by decide
theorem args_len {p : Prg} {x : Ins} (h : insErr p x = 0) : x.args.length ≤ 3 := by
  obtain ⟨⟨h0, h1⟩, h2, _⟩ := insRight h
  have := roles_len x.op.toNat (by omega)
  rw [show ((x.op.toNat : Nat) : Int) = x.op by omega] at this
  omega
theorem prgOk_of {p : Prg} (hV : Valid p) : PrgOk p := by
  refine ⟨fun o ho => ?_, fun x hx => ?_, fun x hx => ?_, fun i hi => ?_, hV.some⟩
  · obtain ⟨i, hi, rfl⟩ := mem_getD (d := opd0) ho
    exact opdOk_of hV hi
  · obtain ⟨⟨h0, h1⟩, h2, h3⟩ := insRight (hV.ins x hx)
    refine ⟨h0, by omega, fun a ha => ?_⟩
    obtain ⟨i, hi, rfl⟩ := mem_getD (d := (0 : Int)) ha
    have := (h3 i hi).1
    omega
  · have := hV.mons x hx
    have hn := hV.nins
    simp only [monOk, decide_eq_true_eq] at this
    omega
  · have R := opRight (hV.ops i hi)
    have := named_hit hi rfl
    have := R.twice
    omega
theorem opdWr_of {o : Opd} (h : OpdOk o) : opdWr o ∧ o.name.length ≤ 10 ∧ o.base.length ≤ 10 := by
  have hn := name_len h.name
  have hx := h.extra
  have hk : o.kind = 0 ∨ o.kind = 1 ∨ o.kind = 2 ∨ o.kind = 3 ∨ o.kind = 4 ∨ o.kind = 5 := by have := h.k0; have := h.k5; omega
  have hb : o.base.length ≤ 10 := by
    by_cases hb : o.kind = 1 ∨ o.kind = 2
    · exact (name_len (h.base hb).1).2
    · have : o.base = [] := by
        rcases hk with e | e | e | e | e | e <;> simp [hasExtra, e] at hx hb
        · exact hx.1.1
        · exact hx.1.2.1
        · exact hx.1.1
        · exact hx.2.1
      rw [this]; simp
  refine ⟨⟨by omega, by omega, fun hk => ?_, fun hk => ?_, fun hk => ?_⟩, hn.2, hb⟩
  · obtain ⟨t1, t2⟩ := h.ty (by unfold isData; simp only [decide_eq_true_eq]; omega)
    obtain ⟨l1, l2, l3, l4⟩ := type_len t1 t2
    obtain ⟨v1, v2⟩ := value_facts (h.val hk)
    have f := type_facts t1
    refine ⟨⟨l1.1, l1.2, ⟨by omega, by omega⟩, ⟨by omega, by omega⟩⟩, fun h0 => (v1 h0).1, ?_⟩
    by_cases h0 : o.ty.k = 0
    · have := v2 h0; omega
    · rw [(v1 h0).2]; simp
  · obtain ⟨t1, t2⟩ := h.ty (by unfold isData; simp only [decide_eq_true_eq]; omega)
    obtain ⟨l1, l2, l3, l4⟩ := type_len t1 t2
    have := h.base hk
    exact ⟨⟨l1.1, l1.2, ⟨by omega, by omega⟩, ⟨by omega, by omega⟩⟩, by omega, by omega⟩
  · have := h.tgt (by omega)
    exact ⟨by omega, by omega⟩
theorem opdLine_len {o : Opd} (h : OpdOk o) : (opdLine o).length ≤ 20300 := by
  obtain ⟨⟨w1, w2, w3, w4, w5⟩, w6, w7⟩ := opdWr_of h
  unfold opdLine
  by_cases h0 : o.kind = 0
  · rw [if_pos h0]
    have t := typeText_len (w3 (.inl h0)).1
    have v := valueText_len (w3 (.inl h0)).2
    simp only [List.length_append, List.length_cons, List.length_nil]; omega
  · rw [if_neg h0]
    by_cases h1 : o.kind = 1
    · rw [if_pos h1]
      have t := typeText_len (w4 (.inl h1)).1
      have v := itoa_len (w4 (.inl h1)).2.1 (w4 (.inl h1)).2.2
      simp only [List.length_append, List.length_cons, List.length_nil]; omega
    · rw [if_neg h1]
      by_cases h2 : o.kind = 2
      · rw [if_pos h2]
        have t := typeText_len (w4 (.inr h2)).1
        have v := itoa_len (w4 (.inr h2)).2.1 (w4 (.inr h2)).2.2
        simp only [List.length_append, List.length_cons, List.length_nil]; omega
      · rw [if_neg h2]
        by_cases h3 : o.kind = 3
        · rw [if_pos h3]
          simp only [List.length_append, List.length_cons, List.length_nil]; omega
        · rw [if_neg h3]
          by_cases h4 : o.kind = 4
          · rw [if_pos h4]
            have t := typeText_len (w3 (.inr h4)).1
            have v := valueText_len (w3 (.inr h4)).2
            simp only [List.length_append, List.length_cons, List.length_nil]; omega
          · rw [if_neg h4]
            have t := w5 (by omega)
            have v := itoa_len t.1 t.2
            simp only [List.length_append, List.length_cons, List.length_nil]; omega
theorem jn_len {c : UInt8} : ∀ {xs : List Str}, (∀ x ∈ xs, x.length ≤ 10) → (jn c xs).length ≤ 11 * xs.length
  | [], _ => by simp [jn]
  | [x], h => by have := h x (by simp); simp [jn]; omega
  | x :: y :: r, h => by
    have ih := jn_len (c := c) (xs := y :: r) fun z hz => h z (by simp [hz])
    have := h x (by simp)
    simp only [jn, List.length_append, List.length_cons] at ih ⊢
    omega
theorem insLine_len {op : Int} {args : List Str} (h0 : 0 ≤ op) (h1 : op < 19) (hl : args.length ≤ 3) (ha : ∀ a ∈ args, isName a = true) : (insLine op args).length ≤ 100 ∧ (Lib.join args [44]).length ≤ 40 := by
  have hw := opName_len op.toNat (by omega)
  have hj := jn_len (c := 44) (xs := args) fun x hx => (name_len (ha x hx)).2
  rw [← join_jn] at hj
  refine ⟨?_, by omega⟩
  unfold insLine
  split
  · omega
  · simp only [List.length_append, List.length_cons, List.length_nil]; omega
theorem monLine_len {o : Mon} (f : (0 ≤ o.fr ∧ o.fr < 1000000000000000) ∧ (0 ≤ o.to ∧ o.to < 1000000000000000) ∧ (0 ≤ o.ex ∧ o.ex < 1000000000000000) ∧ (0 ≤ o.hd ∧ o.hd < 1000000000000000)) : (monLine o).length ≤ 100 := by
  have g1 := itoa_len (n := o.fr) (by omega) (by omega)
  have g2 := itoa_len (n := o.to) (by omega) (by omega)
  have g3 := itoa_len (n := o.ex) (by omega) (by omega)
  have g4 := itoa_len (n := o.hd) (by omega) (by omega)
  unfold monLine sMON
  simp only [List.length_append, List.length_cons, List.length_nil]; omega
theorem flat_len {L : List Str} {b : Nat} (h : ∀ l ∈ L, l.length ≤ b) : (flat L).length ≤ L.length * (b + 2) := by
  induction L with
  | nil => simp [flat]
  | cons l L ih =>
    have := h l (by simp)
    have := ih fun x hx => h x (by simp [hx])
    rw [flat_cons]
    simp only [List.length_append, List.length_cons, Nat.add_mul]
    omega
noncomputable def insL (p : Prg) (x : Ins) : Str := insLine x.op (argNames p x)
theorem line_len {p : Prg} (hV : Valid p) : ∀ l ∈ progLines p, l.length ≤ 20300 := by
  have hP := prgOk_of hV
  intro l hl
  unfold progLines at hl
  simp only [List.mem_append, List.mem_map] at hl
  rcases hl with (⟨o, ho, rfl⟩ | ⟨x, hx, rfl⟩) | ⟨m, hm, rfl⟩
  · exact opdLine_len (hP.ops o ho)
  · have := (insLine_len (hP.ins x hx).1 (hP.ins x hx).2.1 (by rw [argNames, List.length_map]; exact args_len (hV.ins x hx)) (argNames_ok hP hx)).1
    omega
  · have := monLine_len (hP.mons m hm)
    omega
theorem text_len {p : Prg} (hV : Valid p) : (progText p).length ≤ 2000000 := by
  have h := flat_len (line_len hV)
  have h1 := hV.nops
  have h2 := hV.nins
  have h3 := hV.nmons
  have : (progLines p).length ≤ 70 := by
    unfold progLines
    simp only [List.length_append, List.length_map]
    omega
  have h4 : (progLines p).length * (20300 + 2) ≤ 70 * (20300 + 2) := Nat.mul_le_mul_right _ this
  rw [progText_flat]
  omega
theorem flat_le {L M : List Str} (h : L <+: M) : (flat L).length ≤ (flat M).length := by
  obtain ⟨t, rfl⟩ := h
  rw [flat_append, List.length_append]
  omega
theorem strs_as (l : List Str) : eqv (slStrs l) (asSl 1 (l.map cStr)) := by
  refine ⟨by simp, fun i hi => ?_⟩
  exact map_getD cStr [] hi
noncomputable def OpdR (o : Opd) (T V F G : Str) (L : Str) : Prop :=
  ((decide (o.kind = (0 : Int)) = true → Ob ([(68 : UInt8), (67 : UInt8), (76 : UInt8), (32 : UInt8), (68 : UInt8), (68 : UInt8), (32 : UInt8)].length + List.length o.name ≤
  (9223372036854775807 : Nat)) ∧ Ob (([(68 : UInt8), (67 : UInt8), (76 : UInt8), (32 : UInt8), (68 : UInt8), (68 : UInt8), (32 : UInt8)] ++ o.name).length + [(32 : UInt8)].length
  ≤ (9223372036854775807 : Nat)) ∧ Ob (aTy o.ty = aTy o.ty ∧ ((0 : Int) ≤ o.ty.k ∧ o.ty.k ≤ (3 : Int)) ∧ ((0 : Int) ≤ o.ty.l ∧ o.ty.l ≤ (1000 : Int)) ∧ (0 : Int) ≤ o.ty.s ∧
  o.ty.s ≤ (1000 : Int)) ∧ Ob (([(68 : UInt8), (67 : UInt8), (76 : UInt8), (32 : UInt8), (68 : UInt8), (68 : UInt8), (32 : UInt8)] ++ o.name ++ [(32 : UInt8)]).length +
  List.length T ≤ (9223372036854775807 : Nat)) ∧ Ob (([(68 : UInt8), (67 : UInt8), (76 : UInt8), (32 : UInt8), (68 : UInt8), (68 : UInt8), (32 : UInt8)] ++ o.name ++ [(32 :
  UInt8)] ++ T).length + [(32 : UInt8), (73 : UInt8), (78 : UInt8), (73 : UInt8), (84 : UInt8), (40 : UInt8)].length ≤ (9223372036854775807 : Nat)) ∧ Ob (aTy o.ty = aTy o.ty ∧
  aVal o.n o.v = aVal o.n o.v ∧ valWr o.ty o.n o.v) ∧ Ob (([(68 : UInt8), (67 : UInt8), (76 : UInt8), (32 : UInt8), (68 : UInt8), (68 : UInt8), (32 : UInt8)] ++ o.name ++ [(32 :
  UInt8)] ++ T ++ [(32 : UInt8), (73 : UInt8), (78 : UInt8), (73 : UInt8), (84 : UInt8), (40 : UInt8)]).length + List.length V ≤ (9223372036854775807 : Nat)) ∧ Ob (([(68 :
  UInt8), (67 : UInt8), (76 : UInt8), (32 : UInt8), (68 : UInt8), (68 : UInt8), (32 : UInt8)] ++ o.name ++ [(32 : UInt8)] ++ T ++ [(32 : UInt8), (73 : UInt8), (78 : UInt8), (73 :
  UInt8), (84 : UInt8), (40 : UInt8)] ++ V).length + [(41 : UInt8)].length ≤ (9223372036854775807 : Nat)) ∧ [(68 : UInt8), (67 : UInt8), (76 : UInt8), (32 : UInt8), (68 : UInt8),
  (68 : UInt8), (32 : UInt8)] ++ o.name ++ [(32 : UInt8)] ++ T ++ [(32 : UInt8), (73 : UInt8), (78 : UInt8), (73 : UInt8), (84 : UInt8), (40 : UInt8)] ++ V ++ [(41 : UInt8)] = L)
  ∧ (decide (o.kind = (0 : Int)) = false → (decide (o.kind = (1 : Int)) = true → Ob ([(68 : UInt8), (67 : UInt8), (76 : UInt8), (32 : UInt8), (68 : UInt8), (68 : UInt8), (32 :
  UInt8)].length + List.length o.name ≤ (9223372036854775807 : Nat)) ∧ Ob (([(68 : UInt8), (67 : UInt8), (76 : UInt8), (32 : UInt8), (68 : UInt8), (68 : UInt8), (32 : UInt8)] ++
  o.name).length + [(32 : UInt8)].length ≤ (9223372036854775807 : Nat)) ∧ Ob (aTy o.ty = aTy o.ty ∧ ((0 : Int) ≤ o.ty.k ∧ o.ty.k ≤ (3 : Int)) ∧ ((0 : Int) ≤ o.ty.l ∧ o.ty.l ≤
  (1000 : Int)) ∧ (0 : Int) ≤ o.ty.s ∧ o.ty.s ≤ (1000 : Int)) ∧ Ob (([(68 : UInt8), (67 : UInt8), (76 : UInt8), (32 : UInt8), (68 : UInt8), (68 : UInt8), (32 : UInt8)] ++ o.name
  ++ [(32 : UInt8)]).length + List.length T ≤ (9223372036854775807 : Nat)) ∧ Ob (([(68 : UInt8), (67 : UInt8), (76 : UInt8), (32 : UInt8), (68 : UInt8), (68 : UInt8), (32 :
  UInt8)] ++ o.name ++ [(32 : UInt8)] ++ T).length + [(32 : UInt8), (68 : UInt8), (69 : UInt8), (70 : UInt8), (40 : UInt8)].length ≤ (9223372036854775807 : Nat)) ∧ Ob (([(68 :
  UInt8), (67 : UInt8), (76 : UInt8), (32 : UInt8), (68 : UInt8), (68 : UInt8), (32 : UInt8)] ++ o.name ++ [(32 : UInt8)] ++ T ++ [(32 : UInt8), (68 : UInt8), (69 : UInt8), (70 :
  UInt8), (40 : UInt8)]).length + List.length o.base ≤ (9223372036854775807 : Nat)) ∧ Ob (([(68 : UInt8), (67 : UInt8), (76 : UInt8), (32 : UInt8), (68 : UInt8), (68 : UInt8),
  (32 : UInt8)] ++ o.name ++ [(32 : UInt8)] ++ T ++ [(32 : UInt8), (68 : UInt8), (69 : UInt8), (70 : UInt8), (40 : UInt8)] ++ o.base).length + [(44 : UInt8)].length ≤
  (9223372036854775807 : Nat)) ∧ Ob ((0 : Int) ≤ o.off ∧ o.off < (9223372036854775807 : Int)) ∧ Ob (([(68 : UInt8), (67 : UInt8), (76 : UInt8), (32 : UInt8), (68 : UInt8), (68 :
  UInt8), (32 : UInt8)] ++ o.name ++ [(32 : UInt8)] ++ T ++ [(32 : UInt8), (68 : UInt8), (69 : UInt8), (70 : UInt8), (40 : UInt8)] ++ o.base ++ [(44 : UInt8)]).length + F.length
  ≤ (9223372036854775807 : Nat)) ∧ Ob (([(68 : UInt8), (67 : UInt8), (76 : UInt8), (32 : UInt8), (68 : UInt8), (68 : UInt8), (32 : UInt8)] ++ o.name ++ [(32 : UInt8)] ++ T ++
  [(32 : UInt8), (68 : UInt8), (69 : UInt8), (70 : UInt8), (40 : UInt8)] ++ o.base ++ [(44 : UInt8)] ++ F).length + [(41 : UInt8)].length ≤ (9223372036854775807 : Nat)) ∧ [(68 :
  UInt8), (67 : UInt8), (76 : UInt8), (32 : UInt8), (68 : UInt8), (68 : UInt8), (32 : UInt8)] ++ o.name ++ [(32 : UInt8)] ++ T ++ [(32 : UInt8), (68 : UInt8), (69 : UInt8), (70 :
  UInt8), (40 : UInt8)] ++ o.base ++ [(44 : UInt8)] ++ F ++ [(41 : UInt8)] = L) ∧ (decide (o.kind = (1 : Int)) = false → (decide (o.kind = (2 : Int)) = true → Ob ([(68 : UInt8),
  (67 : UInt8), (76 : UInt8), (32 : UInt8), (68 : UInt8), (68 : UInt8), (32 : UInt8)].length + List.length o.name ≤ (9223372036854775807 : Nat)) ∧ Ob (([(68 : UInt8), (67 :
  UInt8), (76 : UInt8), (32 : UInt8), (68 : UInt8), (68 : UInt8), (32 : UInt8)] ++ o.name).length + [(32 : UInt8)].length ≤ (9223372036854775807 : Nat)) ∧ Ob (aTy o.ty = aTy o.ty
  ∧ ((0 : Int) ≤ o.ty.k ∧ o.ty.k ≤ (3 : Int)) ∧ ((0 : Int) ≤ o.ty.l ∧ o.ty.l ≤ (1000 : Int)) ∧ (0 : Int) ≤ o.ty.s ∧ o.ty.s ≤ (1000 : Int)) ∧ Ob (([(68 : UInt8), (67 : UInt8), (76
  : UInt8), (32 : UInt8), (68 : UInt8), (68 : UInt8), (32 : UInt8)] ++ o.name ++ [(32 : UInt8)]).length + List.length T ≤ (9223372036854775807 : Nat)) ∧ Ob (([(68 : UInt8), (67 :
  UInt8), (76 : UInt8), (32 : UInt8), (68 : UInt8), (68 : UInt8), (32 : UInt8)] ++ o.name ++ [(32 : UInt8)] ++ T).length + [(32 : UInt8), (66 : UInt8), (65 : UInt8), (83 :
  UInt8), (40 : UInt8)].length ≤ (9223372036854775807 : Nat)) ∧ Ob (([(68 : UInt8), (67 : UInt8), (76 : UInt8), (32 : UInt8), (68 : UInt8), (68 : UInt8), (32 : UInt8)] ++ o.name
  ++ [(32 : UInt8)] ++ T ++ [(32 : UInt8), (66 : UInt8), (65 : UInt8), (83 : UInt8), (40 : UInt8)]).length + List.length o.base ≤ (9223372036854775807 : Nat)) ∧ Ob (([(68 :
  UInt8), (67 : UInt8), (76 : UInt8), (32 : UInt8), (68 : UInt8), (68 : UInt8), (32 : UInt8)] ++ o.name ++ [(32 : UInt8)] ++ T ++ [(32 : UInt8), (66 : UInt8), (65 : UInt8), (83 :
  UInt8), (40 : UInt8)] ++ o.base).length + [(44 : UInt8)].length ≤ (9223372036854775807 : Nat)) ∧ Ob ((0 : Int) ≤ o.off ∧ o.off < (9223372036854775807 : Int)) ∧ Ob (([(68 :
  UInt8), (67 : UInt8), (76 : UInt8), (32 : UInt8), (68 : UInt8), (68 : UInt8), (32 : UInt8)] ++ o.name ++ [(32 : UInt8)] ++ T ++ [(32 : UInt8), (66 : UInt8), (65 : UInt8), (83 :
  UInt8), (40 : UInt8)] ++ o.base ++ [(44 : UInt8)]).length + F.length ≤ (9223372036854775807 : Nat)) ∧ Ob (([(68 : UInt8), (67 : UInt8), (76 : UInt8), (32 : UInt8), (68 :
  UInt8), (68 : UInt8), (32 : UInt8)] ++ o.name ++ [(32 : UInt8)] ++ T ++ [(32 : UInt8), (66 : UInt8), (65 : UInt8), (83 : UInt8), (40 : UInt8)] ++ o.base ++ [(44 : UInt8)] ++
  F).length + [(41 : UInt8)].length ≤ (9223372036854775807 : Nat)) ∧ [(68 : UInt8), (67 : UInt8), (76 : UInt8), (32 : UInt8), (68 : UInt8), (68 : UInt8), (32 : UInt8)] ++ o.name
  ++ [(32 : UInt8)] ++ T ++ [(32 : UInt8), (66 : UInt8), (65 : UInt8), (83 : UInt8), (40 : UInt8)] ++ o.base ++ [(44 : UInt8)] ++ F ++ [(41 : UInt8)] = L) ∧ (decide (o.kind = (2
  : Int)) = false → (decide (o.kind = (3 : Int)) = true → Ob ([(68 : UInt8), (67 : UInt8), (76 : UInt8), (32 : UInt8), (80 : UInt8), (84 : UInt8), (82 : UInt8), (32 :
  UInt8)].length + List.length o.name ≤ (9223372036854775807 : Nat)) ∧ [(68 : UInt8), (67 : UInt8), (76 : UInt8), (32 : UInt8), (80 : UInt8), (84 : UInt8), (82 : UInt8), (32 :
  UInt8)] ++ o.name = L) ∧ (decide (o.kind = (3 : Int)) = false → (decide (o.kind = (4 : Int)) = true → Ob ([(68 : UInt8), (67 : UInt8), (76 : UInt8), (32 : UInt8), (67 : UInt8),
  (79 : UInt8), (78 : UInt8), (32 : UInt8)].length + List.length o.name ≤ (9223372036854775807 : Nat)) ∧ Ob (([(68 : UInt8), (67 : UInt8), (76 : UInt8), (32 : UInt8), (67 :
  UInt8), (79 : UInt8), (78 : UInt8), (32 : UInt8)] ++ o.name).length + [(32 : UInt8)].length ≤ (9223372036854775807 : Nat)) ∧ Ob (aTy o.ty = aTy o.ty ∧ ((0 : Int) ≤ o.ty.k ∧
  o.ty.k ≤ (3 : Int)) ∧ ((0 : Int) ≤ o.ty.l ∧ o.ty.l ≤ (1000 : Int)) ∧ (0 : Int) ≤ o.ty.s ∧ o.ty.s ≤ (1000 : Int)) ∧ Ob (([(68 : UInt8), (67 : UInt8), (76 : UInt8), (32 : UInt8),
  (67 : UInt8), (79 : UInt8), (78 : UInt8), (32 : UInt8)] ++ o.name ++ [(32 : UInt8)]).length + List.length T ≤ (9223372036854775807 : Nat)) ∧ Ob (([(68 : UInt8), (67 : UInt8),
  (76 : UInt8), (32 : UInt8), (67 : UInt8), (79 : UInt8), (78 : UInt8), (32 : UInt8)] ++ o.name ++ [(32 : UInt8)] ++ T).length + [(32 : UInt8), (73 : UInt8), (78 : UInt8), (73 :
  UInt8), (84 : UInt8), (40 : UInt8)].length ≤ (9223372036854775807 : Nat)) ∧ Ob (aTy o.ty = aTy o.ty ∧ aVal o.n o.v = aVal o.n o.v ∧ valWr o.ty o.n o.v) ∧ Ob (([(68 : UInt8),
  (67 : UInt8), (76 : UInt8), (32 : UInt8), (67 : UInt8), (79 : UInt8), (78 : UInt8), (32 : UInt8)] ++ o.name ++ [(32 : UInt8)] ++ T ++ [(32 : UInt8), (73 : UInt8), (78 : UInt8),
  (73 : UInt8), (84 : UInt8), (40 : UInt8)]).length + List.length V ≤ (9223372036854775807 : Nat)) ∧ Ob (([(68 : UInt8), (67 : UInt8), (76 : UInt8), (32 : UInt8), (67 : UInt8),
  (79 : UInt8), (78 : UInt8), (32 : UInt8)] ++ o.name ++ [(32 : UInt8)] ++ T ++ [(32 : UInt8), (73 : UInt8), (78 : UInt8), (73 : UInt8), (84 : UInt8), (40 : UInt8)] ++ V).length
  + [(41 : UInt8)].length ≤ (9223372036854775807 : Nat)) ∧ [(68 : UInt8), (67 : UInt8), (76 : UInt8), (32 : UInt8), (67 : UInt8), (79 : UInt8), (78 : UInt8), (32 : UInt8)] ++
  o.name ++ [(32 : UInt8)] ++ T ++ [(32 : UInt8), (73 : UInt8), (78 : UInt8), (73 : UInt8), (84 : UInt8), (40 : UInt8)] ++ V ++ [(41 : UInt8)] = L) ∧ (decide (o.kind = (4 : Int))
  = false → Ob ([(68 : UInt8), (67 : UInt8), (76 : UInt8), (32 : UInt8), (76 : UInt8), (65 : UInt8), (66 : UInt8), (69 : UInt8), (76 : UInt8), (32 : UInt8)].length + List.length
  o.name ≤ (9223372036854775807 : Nat)) ∧ Ob (([(68 : UInt8), (67 : UInt8), (76 : UInt8), (32 : UInt8), (76 : UInt8), (65 : UInt8), (66 : UInt8), (69 : UInt8), (76 : UInt8), (32
  : UInt8)] ++ o.name).length + [(32 : UInt8)].length ≤ (9223372036854775807 : Nat)) ∧ Ob ((0 : Int) ≤ o.tgt ∧ o.tgt < (9223372036854775807 : Int)) ∧ Ob (([(68 : UInt8), (67 :
  UInt8), (76 : UInt8), (32 : UInt8), (76 : UInt8), (65 : UInt8), (66 : UInt8), (69 : UInt8), (76 : UInt8), (32 : UInt8)] ++ o.name ++ [(32 : UInt8)]).length + G.length ≤
  (9223372036854775807 : Nat)) ∧ [(68 : UInt8), (67 : UInt8), (76 : UInt8), (32 : UInt8), (76 : UInt8), (65 : UInt8), (66 : UInt8), (69 : UInt8), (76 : UInt8), (32 : UInt8)] ++
  o.name ++ [(32 : UInt8)] ++ G = L))))))
noncomputable def CopdText : Con
  | [v] => .need (v = aOpd (opdOf v) ∧ OpdOk (opdOf v)) (.ret (.str (opdLine (opdOf v))))
  | _ => .fail
theorem opdR_key {o : Opd} {T V F G L : Str} (h : OpdOk o) (hT : tyWr o.ty → T.length ≤ 60) (hV : valWr o.ty o.n o.v → V.length ≤ 20100) (hF : inI64 o.off → F.length ≤ 20) (hG : inI64 o.tgt → G.length ≤ 20)
    (hL : L = if o.kind = 0 then [68, 67, 76, 32, 68, 68, 32] ++ o.name ++ [32] ++ T ++ [32, 73, 78, 73, 84, 40] ++ V ++ [41]
      else if o.kind = 1 then [68, 67, 76, 32, 68, 68, 32] ++ o.name ++ [32] ++ T ++ [32, 68, 69, 70, 40] ++ o.base ++ [44] ++ F ++ [41]
      else if o.kind = 2 then [68, 67, 76, 32, 68, 68, 32] ++ o.name ++ [32] ++ T ++ [32, 66, 65, 83, 40] ++ o.base ++ [44] ++ F ++ [41]
      else if o.kind = 3 then [68, 67, 76, 32, 80, 84, 82, 32] ++ o.name
      else if o.kind = 4 then [68, 67, 76, 32, 67, 79, 78, 32] ++ o.name ++ [32] ++ T ++ [32, 73, 78, 73, 84, 40] ++ V ++ [41]
      else [68, 67, 76, 32, 76, 65, 66, 69, 76, 32] ++ o.name ++ [32] ++ G) : OpdR o T V F G L := by
  obtain ⟨⟨w1, w2, w3, w4, w5⟩, w6, w7⟩ := opdWr_of h
  have hty : isData o.kind = true → (0 ≤ o.ty.k ∧ o.ty.k ≤ 3) ∧ (0 ≤ o.ty.l ∧ o.ty.l ≤ 1000) ∧ 0 ≤ o.ty.s ∧ o.ty.s ≤ 1000 := fun hd => by
    obtain ⟨t1, t2⟩ := h.ty hd
    have f := type_facts t1
    omega
  have hb := h.base
  have ht := h.tgt
  have k0 := h.k0
  have k5 := h.k5
  unfold OpdR
  simp only [Ob_iff, true_and, List.length_append, List.length_cons, List.length_nil, decide_eq_true_eq, decide_eq_false_iff_not]
  refine And.intro (fun h0 => ?_) (fun h0 => And.intro (fun h1 => ?_) (fun h1 => And.intro (fun h2 => ?_) (fun h2 => And.intro (fun h3 => ?_) (fun h3 => And.intro (fun h4 => ?_) (fun h4 => ?_)))))
  · rw [if_pos h0] at hL
    obtain ⟨t1, t2⟩ := w3 (.inl h0)
    have t3 := hT t1
    have t4 := hV t2
    have t5 := hty (by unfold isData; simp only [decide_eq_true_eq]; omega)
    exact ⟨by omega, by omega, t5, by omega, by omega, t2, by omega, by omega, hL.symm⟩
  · rw [if_neg h0, if_pos h1] at hL
    obtain ⟨t1, t2⟩ := w4 (.inl h1)
    have t3 := hT t1
    have t4 := hF t2
    have t5 := hty (by unfold isData; simp only [decide_eq_true_eq]; omega)
    have t6 := hb (.inl h1)
    exact ⟨by omega, by omega, t5, by omega, by omega, by omega, by omega, ⟨by omega, by omega⟩, by omega, by omega, hL.symm⟩
  · rw [if_neg h0, if_neg h1, if_pos h2] at hL
    obtain ⟨t1, t2⟩ := w4 (.inr h2)
    have t3 := hT t1
    have t4 := hF t2
    have t5 := hty (by unfold isData; simp only [decide_eq_true_eq]; omega)
    have t6 := hb (.inr h2)
    exact ⟨by omega, by omega, t5, by omega, by omega, by omega, by omega, ⟨by omega, by omega⟩, by omega, by omega, hL.symm⟩
  · rw [if_neg h0, if_neg h1, if_neg h2, if_pos h3] at hL
    exact ⟨by omega, hL.symm⟩
  · rw [if_neg h0, if_neg h1, if_neg h2, if_neg h3, if_pos h4] at hL
    obtain ⟨t1, t2⟩ := w3 (.inr h4)
    have t3 := hT t1
    have t4 := hV t2
    have t5 := hty (by unfold isData; simp only [decide_eq_true_eq]; omega)
    exact ⟨by omega, by omega, t5, by omega, by omega, t2, by omega, by omega, hL.symm⟩
  · rw [if_neg h0, if_neg h1, if_neg h2, if_neg h3, if_neg h4] at hL
    have t2 := w5 (by omega)
    have t4 := hG t2
    have t6 := ht (by omega)
    exact ⟨by omega, by omega, ⟨by omega, by omega⟩, by omega, hL.symm⟩
theorem ok20 : Ok m 20 CopdText := fn_ok2 (cons_cons (ok38 ok22) (cons_cons (ok39 ok22) (cons_cons ok22 cons_nil))) Tryz.func20 (by kernel_rfl) fun xs r hr hp => by
  unfold CopdText at hr
  split at hr
  · rename_i v
    obtain ⟨⟨hv, hw⟩, hr⟩ := Tr.run_need hr
    have e := Tr.run_ret hr
    subst e
    generalize opdOf v = o at *
    subst hv
    clear hr hp
    refine ⟨_, [], args_self _, of_nice (OpdR o (typeText o.ty) (valueText o.ty o.n o.v) (Lib.itoa o.off) (Lib.itoa o.tgt) (opdLine o)) (by kernel_rfl) ?_⟩
    exact opdR_key hw typeText_len valueText_len (fun h => itoa_len h.1 h.2) (fun h => itoa_len h.1 h.2) rfl
  · exact (Tr.run_fail hr).elim
end Go.Proofs.YtgcnbicoajjlaaaGreatDoor
end
