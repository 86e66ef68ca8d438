/-
What is proved: 'midrangetop.TopTextsRefused' returns true for every input, and its arguments read behind the call as they read before (the tied card of the statement 'TopTextsRefused').
  Its conditions: the row's own: the ten listed package-level variables start as the program's text lays them (the card ties them to that text); nothing else is asked.
  Part 13 of 15.
-/
import Derived.Test.YtgcnbicoajjlaaaGreatDoorA9
import Derived.Test.YtgcnbicoajjlaaaGreatDoorA10
import Derived.Test.YtgcnbicoajjlaaaGreatDoorA11
import Derived.Test.YtgcnbicoajjlaaaGreatDoorA12
import Derived.WalkKit
import Derived.Laws.CopyOwn
import Derived.Deep.LoopGhost
import Derived.Deep.OwnRows
import Derived.Deep.RegionLaw
set_option linter.unusedSectionVars false
set_option linter.unusedVariables false
set_option linter.unusedSimpArgs false
section
set_option linter.unusedVariables false
set_option linter.unusedSimpArgs false
set_option maxRecDepth 100000
namespace Go.Proofs.YtgcnbicoajjlaaaGreatDoor
open Go Go.Eng Go.Tx
variable {m : Int}
noncomputable def argsAt (p : Prg) (i : Nat) : List Int := (p.ins.getD i ins0).args
noncomputable def key (i k : Nat) : Nat := i * 4294967296 + k
theorem key_div {i k : Nat} (h : k < 4294967296) : key i k / 4294967296 = i := by unfold key; omega
noncomputable def inv7a (p : Prg) : Eng.Inv :=
  ⟨{ i : Nat // i ≤ p.ops.length }, fun i => [(1, .ptr 1 0), (5, .row 80), (22, slOpds p.ops), (23, I p.ops.length), (24, I i.1)],
    fun i => [(1, bxPrg p), (80, .row 9 1 (((p.ops.take i.1).map opdLine).map cStr) false)], fun i => p.ops.length - i.1⟩
noncomputable def inv7b (p : Prg) : Eng.Inv :=
  ⟨{ i : Nat // i ≤ p.ins.length }, fun i => [(1, .ptr 1 0), (5, .row 80), (35, slIns p.ins), (36, I p.ins.length), (37, I i.1)],
    fun i => [(1, bxPrg p), (80, .row 9 1 ((p.ops.map opdLine ++ (p.ins.take i.1).map (insL p)).map cStr) false)], fun i => p.ins.length - i.1⟩
noncomputable def inv7c (p : Prg) : Eng.Inv :=
  ⟨{ x : Nat × Nat // x.1 < p.ins.length ∧ x.2 ≤ (argsAt p x.1).length },
    fun x => [(1, .ptr 1 0), (5, .row 80), (35, slIns p.ins), (36, I p.ins.length), (37, I x.1.1), (9, .ptr 9 0), (10, .row 81), (42, slInts (argsAt p x.1.1)), (43, I (argsAt p x.1.1).length), (44, I x.1.2)],
    fun x => [(1, bxPrg p), (9, .box [I (p.ins.getD x.1.1 ins0).op, slInts (argsAt p x.1.1)] false), (80, .row 9 1 ((p.ops.map opdLine ++ (p.ins.take x.1.1).map (insL p)).map cStr) false), (81, .row 9 1 (((argNames p (p.ins.getD x.1.1 ins0)).take x.1.2).map cStr) false)],
    fun x => key x.1.1 ((argsAt p x.1.1).length - x.1.2)⟩
noncomputable def inv7d (p : Prg) : Eng.Inv :=
  ⟨{ i : Nat // i ≤ p.mons.length }, fun i => [(1, .ptr 1 0), (5, .row 80), (67, slMons p.mons), (68, I p.mons.length), (69, I i.1)],
    fun i => [(1, bxPrg p), (80, .row 9 1 ((p.ops.map opdLine ++ p.ins.map (insL p) ++ (p.mons.take i.1).map monLine).map cStr) false)], fun i => p.mons.length - i.1⟩
noncomputable def Cformat : Con
  | [v] => .need (∃ p : Prg, eqv (aPrg p) v ∧ Valid p) (.ret (.tup [.str (if 6000 < (progText (prgOf v)).length then [] else progText (prgOf v)), .int .i64 (if 6000 < (progText (prgOf v)).length then 2 else 0)]))
  | _ => .fail
theorem ok7 (h97 : Ok m 97 Crep) : Ok m 7 Cformat := fn_ok2 (cons_cons (ok14 h97) (cons_cons ok15 (cons_cons ok16 (cons_cons ok17 (cons_cons ok18 cons_nil))))) Tryz.func7 (by kernel_rfl) fun xs r hr hp => by
  unfold Cformat at hr
  split at hr
  · rename_i v
    obtain ⟨⟨p, hl, hV⟩, hr⟩ := Tr.run_need hr
    have e := Tr.run_ret hr
    subst e
    rw [prg_eqv hl]
    generalize hX : (if 6000 < (progText p).length then [] else progText p) = X
    generalize hY : (if 6000 < (progText p).length then (2 : Int) else 0) = Y
    refine ⟨[aPrg p], [(0, inv7a p), (2, inv7b p), (1004, inv7c p), (6, inv7d p)], prg_args hl _, of_nice (Ob (∃ (p_1 : Prg), eqv (aPrg p_1) (aPrg p) ∧ Valid p_1) ∧ ((!decide ((0 : Int) = (0 : Int))) = true → [] = X ∧ (0 : Int) = Y) ∧ ((!decide ((0 : Int) = (0 : Int))) = false → (∃
  (j : { i : Nat // i ≤ p.ops.length }), True ∧ True ∧ (p.ops.length = p.ops.length ∧ ∀ (i : Nat), i < p.ops.length → cOpd (p.ops.getD i opd0) = cOpd (p.ops.getD i opd0)) ∧
  (↑p.ops.length : Int) = (↑p.ops.length : Int) ∧ (0 : Int) = (↑j.val : Int) ∧ ((p.ops.length = p.ops.length ∧ ∀ (i : Nat), i < p.ops.length → cOpd (p.ops.getD i opd0) = cOpd
  (p.ops.getD i opd0)) ∧ (p.ins.length = p.ins.length ∧ ∀ (i : Nat), i < p.ins.length → cIns (p.ins.getD i ins0) = cIns (p.ins.getD i ins0)) ∧ p.mons.length = p.mons.length ∧ ∀
  (i : Nat), i < p.mons.length → cMon (p.mons.getD i mon0) = cMon (p.mons.getD i mon0)) ∧ List.map cStr (List.map opdLine (List.take j.val p.ops)) = [] ∧ True) ∧ ∀ (i :
  { i : Nat // i ≤ p.ops.length }), (decide ((↑i.val : Int) < (↑p.ops.length : Int)) = true → Ob ((0 : Int) ≤ (↑i.val : Int) ∧ (↑i.val : Int) < (↑p.ops.length : Int)) ∧ Ob (aOpd
  (p.ops.getD i.val opd0) = aOpd (p.ops.getD i.val opd0) ∧ opdWr (p.ops.getD i.val opd0)) ∧ Ob ((List.map cStr (List.map opdLine (List.take i.val p.ops))).length + (elsOf (1 :
  Nat) fun (i_1 : Nat) => List.take (1 : Nat) (List.drop (i_1 * (1 : Nat)) [AV.str (opdLine (p.ops.getD i.val opd0))])).length ≤ (1048576 : Nat)) ∧ Ob (inI64 ((↑i.val : Int) + (1
  : Int))) ∧ ∃ (j : { i : Nat // i ≤ p.ops.length }), (p.ops.length - j.val).succ.le (p.ops.length - i.val) ∧ True ∧ True ∧ (p.ops.length = p.ops.length ∧ ∀ (i : Nat), i <
  p.ops.length → cOpd (p.ops.getD i opd0) = cOpd (p.ops.getD i opd0)) ∧ (↑p.ops.length : Int) = (↑p.ops.length : Int) ∧ (↑i.val : Int) + (1 : Int) = (↑j.val : Int) ∧
  ((p.ops.length = p.ops.length ∧ ∀ (i : Nat), i < p.ops.length → cOpd (p.ops.getD i opd0) = cOpd (p.ops.getD i opd0)) ∧ (p.ins.length = p.ins.length ∧ ∀ (i : Nat), i <
  p.ins.length → cIns (p.ins.getD i ins0) = cIns (p.ins.getD i ins0)) ∧ p.mons.length = p.mons.length ∧ ∀ (i : Nat), i < p.mons.length → cMon (p.mons.getD i mon0) = cMon
  (p.mons.getD i mon0)) ∧ (List.map cStr (List.map opdLine (List.take i.val p.ops)) ++ elsOf (1 : Nat) fun (i_1 : Nat) => List.take (1 : Nat) (List.drop (i_1 * (1 : Nat)) [AV.str
  (opdLine (p.ops.getD i.val opd0))])) = List.map cStr (List.map opdLine (List.take j.val p.ops)) ∧ True) ∧ (decide ((↑i.val : Int) < (↑p.ops.length : Int)) = false → (∃ (j :
  { i : Nat // i ≤ p.ins.length }), True ∧ True ∧ (p.ins.length = p.ins.length ∧ ∀ (i : Nat), i < p.ins.length → cIns (p.ins.getD i ins0) = cIns (p.ins.getD i ins0)) ∧
  (↑p.ins.length : Int) = (↑p.ins.length : Int) ∧ (0 : Int) = (↑j.val : Int) ∧ ((p.ops.length = p.ops.length ∧ ∀ (i : Nat), i < p.ops.length → cOpd (p.ops.getD i opd0) = cOpd
  (p.ops.getD i opd0)) ∧ (p.ins.length = p.ins.length ∧ ∀ (i : Nat), i < p.ins.length → cIns (p.ins.getD i ins0) = cIns (p.ins.getD i ins0)) ∧ p.mons.length = p.mons.length ∧ ∀
  (i : Nat), i < p.mons.length → cMon (p.mons.getD i mon0) = cMon (p.mons.getD i mon0)) ∧ List.map cStr (List.map opdLine (List.take i.val p.ops)) = List.map cStr (List.map
  opdLine p.ops ++ List.map (insL p) (List.take j.val p.ins)) ∧ True) ∧ ∀ (i : { i : Nat // i ≤ p.ins.length }), (decide ((↑i.val : Int) < (↑p.ins.length : Int)) = true → Ob ((0
  : Int) ≤ (↑i.val : Int) ∧ (↑i.val : Int) < (↑p.ins.length : Int)) ∧ ∃ (j : { x : Nat × Nat // x.fst < p.ins.length ∧ x.snd ≤ (argsAt p x.fst).length }), (True ∧ True ∧
  (p.ins.length = p.ins.length ∧ ∀ (i : Nat), i < p.ins.length → cIns (p.ins.getD i ins0) = cIns (p.ins.getD i ins0)) ∧ (↑p.ins.length : Int) = (↑p.ins.length : Int) ∧ (↑i.val :
  Int) = (↑j.val.fst : Int) ∧ True ∧ True ∧ ((p.ins.getD i.val ins0).args.length = (argsAt p j.val.fst).length ∧ ∀ (i_1 : Nat), i_1 < (argsAt p j.val.fst).length → [AV.int
  IntKind.i64 ((p.ins.getD i.val ins0).args.getD i_1 (0 : Int))] = [AV.int IntKind.i64 ((argsAt p j.val.fst).getD i_1 (0 : Int))]) ∧ (↑(p.ins.getD i.val ins0).args.length : Int)
  = (↑(argsAt p j.val.fst).length : Int) ∧ (0 : Int) = (↑j.val.snd : Int) ∧ ((p.ops.length = p.ops.length ∧ ∀ (i : Nat), i < p.ops.length → cOpd (p.ops.getD i opd0) = cOpd
  (p.ops.getD i opd0)) ∧ (p.ins.length = p.ins.length ∧ ∀ (i : Nat), i < p.ins.length → cIns (p.ins.getD i ins0) = cIns (p.ins.getD i ins0)) ∧ p.mons.length = p.mons.length ∧ ∀
  (i : Nat), i < p.mons.length → cMon (p.mons.getD i mon0) = cMon (p.mons.getD i mon0)) ∧ ((p.ins.getD i.val ins0).op = (p.ins.getD j.val.fst ins0).op ∧ (p.ins.getD i.val
  ins0).args.length = (argsAt p j.val.fst).length ∧ ∀ (i_1 : Nat), i_1 < (argsAt p j.val.fst).length → [AV.int IntKind.i64 ((p.ins.getD i.val ins0).args.getD i_1 (0 : Int))] =
  [AV.int IntKind.i64 ((argsAt p j.val.fst).getD i_1 (0 : Int))]) ∧ List.map cStr (List.map opdLine p.ops ++ List.map (insL p) (List.take i.val p.ins)) = List.map cStr (List.map
  opdLine p.ops ++ List.map (insL p) (List.take j.val.fst p.ins)) ∧ List.map cStr (List.take j.val.snd (argNames p (p.ins.getD j.val.fst ins0))) = [] ∧ True) ∧ ∀ (i_1 :
  { x : Nat × Nat // x.fst < p.ins.length ∧ x.snd ≤ (argsAt p x.fst).length }), key i_1.val.fst ((argsAt p i_1.val.fst).length - i_1.val.snd) / (4294967296 : Nat) = key j.val.fst
  ((argsAt p j.val.fst).length - j.val.snd) / (4294967296 : Nat) → (decide ((↑i_1.val.snd : Int) < (↑(argsAt p i_1.val.fst).length : Int)) = true → Ob ((0 : Int) ≤ (↑i_1.val.snd
  : Int) ∧ (↑i_1.val.snd : Int) < (↑(argsAt p i_1.val.fst).length : Int)) ∧ Ob ((0 : Int) ≤ (argsAt p i_1.val.fst).getD i_1.val.snd (0 : Int) ∧ (argsAt p i_1.val.fst).getD
  i_1.val.snd (0 : Int) < (↑p.ops.length : Int)) ∧ Ob ((List.map cStr (List.take i_1.val.snd (argNames p (p.ins.getD i_1.val.fst ins0)))).length + (elsOf (1 : Nat) fun (i : Nat)
  => List.take (1 : Nat) (List.drop (i * (1 : Nat)) [AV.str (p.ops.getD ((argsAt p i_1.val.fst).getD i_1.val.snd (0 : Int)).toNat opd0).name])).length ≤ (1048576 : Nat)) ∧ Ob
  (inI64 ((↑i_1.val.snd : Int) + (1 : Int))) ∧ ∃ (j_1 : { x : Nat × Nat // x.fst < p.ins.length ∧ x.snd ≤ (argsAt p x.fst).length }), key j_1.val.fst ((argsAt p
  j_1.val.fst).length - j_1.val.snd) / (4294967296 : Nat) = key j.val.fst ((argsAt p j.val.fst).length - j.val.snd) / (4294967296 : Nat) ∧ (key j_1.val.fst ((argsAt p
  j_1.val.fst).length - j_1.val.snd)).succ.le (key i_1.val.fst ((argsAt p i_1.val.fst).length - i_1.val.snd)) ∧ True ∧ True ∧ (p.ins.length = p.ins.length ∧ ∀ (i : Nat), i <
  p.ins.length → cIns (p.ins.getD i ins0) = cIns (p.ins.getD i ins0)) ∧ (↑p.ins.length : Int) = (↑p.ins.length : Int) ∧ (↑i_1.val.fst : Int) = (↑j_1.val.fst : Int) ∧ True ∧ True
  ∧ ((argsAt p i_1.val.fst).length = (argsAt p j_1.val.fst).length ∧ ∀ (i : Nat), i < (argsAt p j_1.val.fst).length → [AV.int IntKind.i64 ((argsAt p i_1.val.fst).getD i (0 :
  Int))] = [AV.int IntKind.i64 ((argsAt p j_1.val.fst).getD i (0 : Int))]) ∧ (↑(argsAt p i_1.val.fst).length : Int) = (↑(argsAt p j_1.val.fst).length : Int) ∧ (↑i_1.val.snd :
  Int) + (1 : Int) = (↑j_1.val.snd : Int) ∧ ((p.ops.length = p.ops.length ∧ ∀ (i : Nat), i < p.ops.length → cOpd (p.ops.getD i opd0) = cOpd (p.ops.getD i opd0)) ∧ (p.ins.length =
  p.ins.length ∧ ∀ (i : Nat), i < p.ins.length → cIns (p.ins.getD i ins0) = cIns (p.ins.getD i ins0)) ∧ p.mons.length = p.mons.length ∧ ∀ (i : Nat), i < p.mons.length → cMon
  (p.mons.getD i mon0) = cMon (p.mons.getD i mon0)) ∧ ((p.ins.getD i_1.val.fst ins0).op = (p.ins.getD j_1.val.fst ins0).op ∧ (argsAt p i_1.val.fst).length = (argsAt p
  j_1.val.fst).length ∧ ∀ (i : Nat), i < (argsAt p j_1.val.fst).length → [AV.int IntKind.i64 ((argsAt p i_1.val.fst).getD i (0 : Int))] = [AV.int IntKind.i64 ((argsAt p
  j_1.val.fst).getD i (0 : Int))]) ∧ List.map cStr (List.map opdLine p.ops ++ List.map (insL p) (List.take i_1.val.fst p.ins)) = List.map cStr (List.map opdLine p.ops ++ List.map
  (insL p) (List.take j_1.val.fst p.ins)) ∧ (List.map cStr (List.take i_1.val.snd (argNames p (p.ins.getD i_1.val.fst ins0))) ++ elsOf (1 : Nat) fun (i : Nat) => List.take (1 :
  Nat) (List.drop (i * (1 : Nat)) [AV.str (p.ops.getD ((argsAt p i_1.val.fst).getD i_1.val.snd (0 : Int)).toNat opd0).name])) = List.map cStr (List.take j_1.val.snd (argNames p
  (p.ins.getD j_1.val.fst ins0))) ∧ True) ∧ (decide ((↑i_1.val.snd : Int) < (↑(argsAt p i_1.val.fst).length : Int)) = false → Ob ((0 : Int) ≤ (p.ins.getD i_1.val.fst ins0).op ∧
  (p.ins.getD i_1.val.fst ins0).op < (19 : Int) ∧ ∃ (l : List Str), eqv (slStrs l) (AV.sl false (1 : Nat) (List.map cStr (List.take i_1.val.snd (argNames p (p.ins.getD
  i_1.val.fst ins0)))).length fun (i : Nat) => (List.map cStr (List.take i_1.val.snd (argNames p (p.ins.getD i_1.val.fst ins0)))).getD i []) ∧ l.length ≤ (10000 : Nat) ∧
  (Lib.join l [(44 : UInt8)]).length ≤ (1000000 : Nat)) ∧ Ob ((List.map cStr (List.map opdLine p.ops ++ List.map (insL p) (List.take i_1.val.fst p.ins))).length + (elsOf (1 :
  Nat) fun (i : Nat) => List.take (1 : Nat) (List.drop (i * (1 : Nat)) [AV.str (insLine (p.ins.getD i_1.val.fst ins0).op (strs (AV.sl false (1 : Nat) (List.map cStr (List.take
  i_1.val.snd (argNames p (p.ins.getD i_1.val.fst ins0)))).length fun (i : Nat) => (List.map cStr (List.take i_1.val.snd (argNames p (p.ins.getD i_1.val.fst ins0)))).getD i
  [])))])).length ≤ (1048576 : Nat)) ∧ Ob (inI64 ((↑i_1.val.fst : Int) + (1 : Int))) ∧ ∃ (j : { i : Nat // i ≤ p.ins.length }), (p.ins.length - j.val).succ.le (p.ins.length -
  i.val) ∧ True ∧ True ∧ (p.ins.length = p.ins.length ∧ ∀ (i : Nat), i < p.ins.length → cIns (p.ins.getD i ins0) = cIns (p.ins.getD i ins0)) ∧ (↑p.ins.length : Int) =
  (↑p.ins.length : Int) ∧ (↑i_1.val.fst : Int) + (1 : Int) = (↑j.val : Int) ∧ ((p.ops.length = p.ops.length ∧ ∀ (i : Nat), i < p.ops.length → cOpd (p.ops.getD i opd0) = cOpd
  (p.ops.getD i opd0)) ∧ (p.ins.length = p.ins.length ∧ ∀ (i : Nat), i < p.ins.length → cIns (p.ins.getD i ins0) = cIns (p.ins.getD i ins0)) ∧ p.mons.length = p.mons.length ∧ ∀
  (i : Nat), i < p.mons.length → cMon (p.mons.getD i mon0) = cMon (p.mons.getD i mon0)) ∧ (List.map cStr (List.map opdLine p.ops ++ List.map (insL p) (List.take i_1.val.fst
  p.ins)) ++ elsOf (1 : Nat) fun (i : Nat) => List.take (1 : Nat) (List.drop (i * (1 : Nat)) [AV.str (insLine (p.ins.getD i_1.val.fst ins0).op (strs (AV.sl false (1 : Nat)
  (List.map cStr (List.take i_1.val.snd (argNames p (p.ins.getD i_1.val.fst ins0)))).length fun (i : Nat) => (List.map cStr (List.take i_1.val.snd (argNames p (p.ins.getD
  i_1.val.fst ins0)))).getD i [])))])) = List.map cStr (List.map opdLine p.ops ++ List.map (insL p) (List.take j.val p.ins)) ∧ True)) ∧ (decide ((↑i.val : Int) < (↑p.ins.length :
  Int)) = false → (∃ (j : { i : Nat // i ≤ p.mons.length }), True ∧ True ∧ (p.mons.length = p.mons.length ∧ ∀ (i : Nat), i < p.mons.length → cMon (p.mons.getD i mon0) = cMon
  (p.mons.getD i mon0)) ∧ (↑p.mons.length : Int) = (↑p.mons.length : Int) ∧ (0 : Int) = (↑j.val : Int) ∧ ((p.ops.length = p.ops.length ∧ ∀ (i : Nat), i < p.ops.length → cOpd
  (p.ops.getD i opd0) = cOpd (p.ops.getD i opd0)) ∧ (p.ins.length = p.ins.length ∧ ∀ (i : Nat), i < p.ins.length → cIns (p.ins.getD i ins0) = cIns (p.ins.getD i ins0)) ∧
  p.mons.length = p.mons.length ∧ ∀ (i : Nat), i < p.mons.length → cMon (p.mons.getD i mon0) = cMon (p.mons.getD i mon0)) ∧ List.map cStr (List.map opdLine p.ops ++ List.map
  (insL p) (List.take i.val p.ins)) = List.map cStr (List.map opdLine p.ops ++ List.map (insL p) p.ins ++ List.map monLine (List.take j.val p.mons)) ∧ True) ∧ ∀ (i :
  { i : Nat // i ≤ p.mons.length }), (decide ((↑i.val : Int) < (↑p.mons.length : Int)) = true → Ob ((0 : Int) ≤ (↑i.val : Int) ∧ (↑i.val : Int) < (↑p.mons.length : Int)) ∧ Ob
  (aMon (p.mons.getD i.val mon0) = aMon (p.mons.getD i.val mon0) ∧ inI64 (p.mons.getD i.val mon0).fr ∧ inI64 (p.mons.getD i.val mon0).to ∧ inI64 (p.mons.getD i.val mon0).ex ∧
  inI64 (p.mons.getD i.val mon0).hd) ∧ Ob ((List.map cStr (List.map opdLine p.ops ++ List.map (insL p) p.ins ++ List.map monLine (List.take i.val p.mons))).length + (elsOf (1 :
  Nat) fun (i_1 : Nat) => List.take (1 : Nat) (List.drop (i_1 * (1 : Nat)) [AV.str (monLine (p.mons.getD i.val mon0))])).length ≤ (1048576 : Nat)) ∧ Ob (inI64 ((↑i.val : Int) +
  (1 : Int))) ∧ ∃ (j : { i : Nat // i ≤ p.mons.length }), (p.mons.length - j.val).succ.le (p.mons.length - i.val) ∧ True ∧ True ∧ (p.mons.length = p.mons.length ∧ ∀ (i : Nat), i
  < p.mons.length → cMon (p.mons.getD i mon0) = cMon (p.mons.getD i mon0)) ∧ (↑p.mons.length : Int) = (↑p.mons.length : Int) ∧ (↑i.val : Int) + (1 : Int) = (↑j.val : Int) ∧
  ((p.ops.length = p.ops.length ∧ ∀ (i : Nat), i < p.ops.length → cOpd (p.ops.getD i opd0) = cOpd (p.ops.getD i opd0)) ∧ (p.ins.length = p.ins.length ∧ ∀ (i : Nat), i <
  p.ins.length → cIns (p.ins.getD i ins0) = cIns (p.ins.getD i ins0)) ∧ p.mons.length = p.mons.length ∧ ∀ (i : Nat), i < p.mons.length → cMon (p.mons.getD i mon0) = cMon
  (p.mons.getD i mon0)) ∧ (List.map cStr (List.map opdLine p.ops ++ List.map (insL p) p.ins ++ List.map monLine (List.take i.val p.mons)) ++ elsOf (1 : Nat) fun (i_1 : Nat) =>
  List.take (1 : Nat) (List.drop (i_1 * (1 : Nat)) [AV.str (monLine (p.mons.getD i.val mon0))])) = List.map cStr (List.map opdLine p.ops ++ List.map (insL p) p.ins ++ List.map
  monLine (List.take j.val p.mons)) ∧ True) ∧ (decide ((↑i.val : Int) < (↑p.mons.length : Int)) = false → Ob (∃ (l : List Str), eqv (slStrs l) (AV.sl false (1 : Nat) (List.map
  cStr (List.map opdLine p.ops ++ List.map (insL p) p.ins ++ List.map monLine (List.take i.val p.mons))).length fun (i_1 : Nat) => (List.map cStr (List.map opdLine p.ops ++
  List.map (insL p) p.ins ++ List.map monLine (List.take i.val p.mons))).getD i_1 []) ∧ l.length ≤ (140737488355328 : Nat) ∧ (Lib.join l [(59 : UInt8), (10 : UInt8)]).length ≤
  (140737488355328 : Nat)) ∧ Ob ((Lib.join (strs (AV.sl false (1 : Nat) (List.map cStr (List.map opdLine p.ops ++ List.map (insL p) p.ins ++ List.map monLine (List.take i.val
  p.mons))).length fun (i_1 : Nat) => (List.map cStr (List.map opdLine p.ops ++ List.map (insL p) p.ins ++ List.map monLine (List.take i.val p.mons))).getD i_1 [])) [(59 :
  UInt8), (10 : UInt8)]).length + [(59 : UInt8), (10 : UInt8)].length ≤ (9223372036854775807 : Nat)) ∧ (decide ((6000 : Int) < (↑(Lib.join (strs (AV.sl false (1 : Nat) (List.map
  cStr (List.map opdLine p.ops ++ List.map (insL p) p.ins ++ List.map monLine (List.take i.val p.mons))).length fun (i_1 : Nat) => (List.map cStr (List.map opdLine p.ops ++
  List.map (insL p) p.ins ++ List.map monLine (List.take i.val p.mons))).getD i_1 [])) [(59 : UInt8), (10 : UInt8)] ++ [(59 : UInt8), (10 : UInt8)]).length : Int)) = true → [] =
  X ∧ (2 : Int) = Y) ∧ (decide ((6000 : Int) < (↑(Lib.join (strs (AV.sl false (1 : Nat) (List.map cStr (List.map opdLine p.ops ++ List.map (insL p) p.ins ++ List.map monLine
  (List.take i.val p.mons))).length fun (i_1 : Nat) => (List.map cStr (List.map opdLine p.ops ++ List.map (insL p) p.ins ++ List.map monLine (List.take i.val p.mons))).getD i_1
  [])) [(59 : UInt8), (10 : UInt8)] ++ [(59 : UInt8), (10 : UInt8)]).length : Int)) = false → Lib.join (strs (AV.sl false (1 : Nat) (List.map cStr (List.map opdLine p.ops ++
  List.map (insL p) p.ins ++ List.map monLine (List.take i.val p.mons))).length fun (i_1 : Nat) => (List.map cStr (List.map opdLine p.ops ++ List.map (insL p) p.ins ++ List.map
  monLine (List.take i.val p.mons))).getD i_1 [])) [(59 : UInt8), (10 : UInt8)] ++ [(59 : UInt8), (10 : UInt8)] = X ∧ (0 : Int) = Y)))))) (by kernel_rfl) ?_⟩
    have hP := prgOk_of hV
    have h1 := hV.nops
    have h2 := hV.nins
    have h3 := hV.nmons
    have hstep : ∀ (A : List Str) (x : Str), A.map cStr ++ (elsOf 1 fun i => List.take 1 (List.drop (i * 1) [AV.str x])) = (A ++ [x]).map cStr := fun A x => by rw [List.map_append]; rfl
    simp only [Ob_iff, inI64, decide_true, Bool.not_true, Bool.false_eq_true, false_implies, true_implies, true_and, and_true, implies_true, show ∀ f, (elsOf 1 f).length = 1 from fun f => rfl]
    refine ⟨⟨p, aPrg_refl p, hV⟩, ⟨⟨0, Nat.zero_le _⟩, rfl, rfl⟩, ?_⟩
    rintro ⟨i, hi⟩
    dsimp only
    refine And.intro (fun h => ?_) (fun h => ?_)
    · have h' := lt_of_dec h
      refine ⟨⟨by omega, by omega⟩, (opdWr_of (opdOk_of hV h')).1, by simp only [List.length_map, List.length_take]; omega, ⟨by omega, by omega⟩, ⟨i + 1, h'⟩, sub_step h', rfl, ?_⟩
      rw [hstep, take_step opdLine opd0 h']
    · have := ge_of_dec h hi
      subst this
      rw [List.take_length]
      refine And.intro ⟨⟨0, Nat.zero_le _⟩, rfl, by simp⟩ ?_
      clear h hi
      rintro ⟨i, hi⟩
      dsimp only
      refine And.intro (fun h => ?_) (fun h => ?_)
      · have h' := lt_of_dec h
        have hmem := getD_mem (d := ins0) h'
        have ha : (argsAt p i).length ≤ 3 := args_len (hV.ins _ hmem)
        refine And.intro ⟨by omega, by omega⟩ ⟨⟨(i, 0), h', Nat.zero_le _⟩, ⟨rfl, ⟨rfl, fun _ _ => rfl⟩, rfl, rfl, ⟨rfl, rfl, fun _ _ => rfl⟩, rfl, rfl⟩, ?_⟩
        rintro ⟨⟨i2, k⟩, hi2, hk⟩ hkey
        dsimp only at hi2 hk hkey ⊢
        have ha2 : (argsAt p i2).length ≤ 3 := args_len (hV.ins _ (getD_mem (d := ins0) hi2))
        rw [key_div (by omega), key_div (by omega)] at hkey
        subst hkey
        have hnl : (argNames p (p.ins.getD i2 ins0)).length = (argsAt p i2).length := by unfold argNames argsAt; rw [List.length_map]
        refine And.intro (fun h4 => ?_) (fun h4 => ?_)
        · have h4' := lt_of_dec h4
          have hb := (hP.ins _ hmem).2.2 _ (getD_mem (d := (0 : Int)) h4')
          refine ⟨⟨by omega, by omega⟩, hb, by simp only [List.length_map, List.length_take]; omega, ⟨by omega, by omega⟩, ⟨(i2, k + 1), h', h4'⟩, ?_, ?_, rfl, ⟨rfl, fun _ _ => rfl⟩, rfl, rfl, ⟨rfl, rfl, fun _ _ => rfl⟩, rfl, ?_⟩
          · dsimp only
            rw [key_div (by omega), key_div (by omega)]
          · show key i2 _ < key i2 _
            unfold key
            dsimp only
            omega
          · dsimp only
            rw [hstep]
            congr 1
            unfold argNames
            rw [← List.map_take, ← List.map_take]
            exact take_step (fun a : Int => (p.ops.getD a.toNat opd0).name) 0 h4'
        · have := ge_of_dec h4 hk
          subst this
          rw [List.take_of_length_le (l := argNames p (p.ins.getD i2 ins0)) (by omega), show AV.sl false 1 (List.map cStr (argNames p (p.ins.getD i2 ins0))).length (fun i => (List.map cStr (argNames p (p.ins.getD i2 ins0))).getD i []) = asSl 1 (List.map cStr (argNames p (p.ins.getD i2 ins0))) from rfl, strs_eqv (strs_as _)]
          have hx := hP.ins _ hmem
          have hj := insLine_len hx.1 hx.2.1 (by omega) (argNames_ok hP hmem)
          refine ⟨⟨hx.1, hx.2.1, _, strs_as _, by omega, by omega⟩, by simp only [List.length_map, List.length_append, List.length_take]; omega, ⟨by omega, by omega⟩, ⟨i2 + 1, h'⟩, sub_step h', rfl, ?_⟩
          dsimp only
          rw [hstep, List.append_assoc]
          congr 2
          exact take_step (insL p) ins0 h'
      · have := ge_of_dec h hi
        subst this
        rw [List.take_length]
        refine And.intro ⟨⟨0, Nat.zero_le _⟩, rfl, by simp⟩ ?_
        clear h hi
        rintro ⟨i, hi⟩
        dsimp only
        refine And.intro (fun h => ?_) (fun h => ?_)
        · have h' := lt_of_dec h
          have hx := hP.mons _ (getD_mem (d := mon0) h')
          refine ⟨⟨by omega, by omega⟩, ⟨⟨by omega, by omega⟩, ⟨by omega, by omega⟩, ⟨by omega, by omega⟩, by omega, by omega⟩, by simp only [List.length_map, List.length_append, List.length_take]; omega, ⟨by omega, by omega⟩, ⟨i + 1, h'⟩, sub_step h', rfl, ?_⟩
          dsimp only
          rw [hstep, List.append_assoc]
          congr 2
          exact take_step monLine mon0 h'
        · have := ge_of_dec h hi
          subst this
          rw [List.take_length]
          have hL : List.map opdLine p.ops ++ List.map (insL p) p.ins ++ List.map monLine p.mons = progLines p := rfl
          rw [hL, show AV.sl false 1 (List.map cStr (progLines p)).length (fun i => (List.map cStr (progLines p)).getD i []) = asSl 1 (List.map cStr (progLines p)) from rfl, strs_eqv (strs_as _)]
          have hne : progLines p ≠ [] := fun e => by
            have := congrArg List.length e
            unfold progLines at this
            simp only [List.length_append, List.length_map, List.length_nil] at this
            exact hV.some (List.length_eq_zero_iff.1 (by omega))
          have hjt : Lib.join (progLines p) [59, 10] ++ [59, 10] = progText p := join_flat hne
          have htl := text_len hV
          have hjl := congrArg List.length hjt
          rw [List.length_append] at hjl
          have hpl : (progLines p).length ≤ 70 := by
            unfold progLines
            simp only [List.length_append, List.length_map]
            omega
          refine ⟨⟨_, strs_as _, by omega, by omega⟩, by omega, ?_⟩
          rw [hjt]
          refine And.intro (fun h => ?_) (fun h => ?_)
          · have h := of_decide_eq_true h
            rw [if_pos (by omega)] at hX hY
            exact ⟨hX, hY⟩
          · have h := of_decide_eq_false h
            rw [if_neg (by omega)] at hX hY
            exact ⟨hX, hY⟩
  · exact (Tr.run_fail hr).elim
noncomputable def argsT (l : List Str) : Str := if l = [] then [] else [32] ++ Lib.join l [44]
theorem flat_snoc (L : List Str) (l : Str) : flat (L ++ [l]) = flat L ++ l ++ [59, 10] := by
  rw [flat_append, flat_cons, flat_nil]
  simp
theorem jn_snoc {c : UInt8} : ∀ {l : List Str} {a : Str}, l ≠ [] → jn c (l ++ [a]) = jn c l ++ [c] ++ a
  | [], _, h => absurd rfl h
  | [x], a, _ => by simp [jn]
  | x :: y :: r, a, _ => by
    have ih := jn_snoc (c := c) (l := y :: r) (a := a) (by simp)
    simp only [List.cons_append] at ih
    simp only [List.cons_append, jn, ih, List.append_assoc]
theorem argsT_snoc (l : List Str) (a : Str) : argsT (l ++ [a]) = argsT l ++ (if l = [] then [32] else [44]) ++ a := by
  unfold argsT
  rw [if_neg (by simp)]
  by_cases h : l = []
  · subst h
    simp [join_jn, jn]
  · rw [if_neg h, if_neg h, join_jn, join_jn, jn_snoc h]
    simp only [List.append_assoc]
theorem argsT_len {l : List Str} (h : ∀ a ∈ l, a.length ≤ 10) (hn : l.length ≤ 3) : (argsT l).length ≤ 40 := by
  have := jn_len (c := 44) h
  unfold argsT
  split
  · simp
  · rw [join_jn]
    simp only [List.length_append, List.length_cons, List.length_nil]
    omega
theorem insL_args (p : Prg) (x : Ins) : insL p x = opNames.getD x.op.toNat [] ++ argsT (argNames p x) := by
  unfold insL insLine argsT
  split
  · simp
  · simp only [List.append_assoc]
noncomputable def inv9a (p : Prg) : Eng.Inv :=
  ⟨{ i : Nat // i ≤ p.ops.length }, fun i => [(1, .ptr 1 0), (3, .str (flat ((p.ops.take i.1).map opdLine))), (4, I i.1)], fun _ => [(1, bxPrg p)], fun i => p.ops.length - i.1⟩
noncomputable def inv9b (p : Prg) : Eng.Inv :=
  ⟨{ i : Nat // i ≤ p.ins.length }, fun i => [(1, .ptr 1 0), (3, .str (flat (p.ops.map opdLine ++ (p.ins.take i.1).map (insL p)))), (5, I i.1)], fun _ => [(1, bxPrg p)], fun i => p.ins.length - i.1⟩
noncomputable def inv9c (p : Prg) : Eng.Inv :=
  ⟨{ x : Nat × Nat // x.1 < p.ins.length ∧ x.2 ≤ (argsAt p x.1).length },
    fun x => [(1, .ptr 1 0), (3, .str (flat (p.ops.map opdLine ++ (p.ins.take x.1.1).map (insL p)) ++ opNames.getD (p.ins.getD x.1.1 ins0).op.toNat [] ++ argsT ((argNames p (p.ins.getD x.1.1 ins0)).take x.1.2))), (5, I x.1.1), (6, .ptr 6 0), (7, I x.1.2)],
    fun x => [(1, bxPrg p), (6, .box [I (p.ins.getD x.1.1 ins0).op, slInts (argsAt p x.1.1)] false)], fun x => key x.1.1 ((argsAt p x.1.1).length - x.1.2)⟩
noncomputable def inv9d (p : Prg) : Eng.Inv :=
  ⟨{ i : Nat // i ≤ p.mons.length }, fun i => [(1, .ptr 1 0), (3, .str (flat (p.ops.map opdLine ++ p.ins.map (insL p) ++ (p.mons.take i.1).map monLine))), (9, I i.1)], fun _ => [(1, bxPrg p)], fun i => p.mons.length - i.1⟩
noncomputable def CformatR : Con
  | [v] => .need (∃ p : Prg, eqv (aPrg p) v ∧ Valid p) (.ret (.str (progText (prgOf v))))
  | _ => .fail
theorem ok9 : Ok m 9 CformatR := fn_ok2 (cons_cons ok20 (cons_cons ok21 (cons_cons ok22 cons_nil))) Tryz.func9 (by kernel_rfl) fun xs r hr hp => by
  unfold CformatR at hr
  split at hr
  · rename_i v
    obtain ⟨⟨p, hl, hV⟩, hr⟩ := Tr.run_need hr
    have e := Tr.run_ret hr
    subst e
    rw [prg_eqv hl]
    refine ⟨[aPrg p], [(0, inv9a p), (2, inv9b p), (1004, inv9c p), (6, inv9d p)], prg_args hl _, of_nice ((∃ (j : { i : Nat // i ≤ p.ops.length }), True ∧ [] = flat (List.map opdLine (List.take j.val p.ops)) ∧ (0 : Int) = (↑j.val : Int) ∧ ((p.ops.length = p.ops.length ∧ ∀ (i : Nat),
  i < p.ops.length → cOpd (p.ops.getD i opd0) = cOpd (p.ops.getD i opd0)) ∧ (p.ins.length = p.ins.length ∧ ∀ (i : Nat), i < p.ins.length → cIns (p.ins.getD i ins0) = cIns
  (p.ins.getD i ins0)) ∧ p.mons.length = p.mons.length ∧ ∀ (i : Nat), i < p.mons.length → cMon (p.mons.getD i mon0) = cMon (p.mons.getD i mon0)) ∧ True) ∧ ∀ (i :
  { i : Nat // i ≤ p.ops.length }), (decide ((↑i.val : Int) < (↑p.ops.length : Int)) = true → Ob ((0 : Int) ≤ (↑i.val : Int) ∧ (↑i.val : Int) < (↑p.ops.length : Int)) ∧ Ob (aOpd
  (p.ops.getD i.val opd0) = aOpd (p.ops.getD i.val opd0) ∧ OpdOk (p.ops.getD i.val opd0)) ∧ Ob (List.length (flat (List.map opdLine (List.take i.val p.ops))) + List.length
  (opdLine (p.ops.getD i.val opd0)) ≤ (9223372036854775807 : Nat)) ∧ Ob ((flat (List.map opdLine (List.take i.val p.ops)) ++ opdLine (p.ops.getD i.val opd0)).length + [(59 :
  UInt8), (10 : UInt8)].length ≤ (9223372036854775807 : Nat)) ∧ Ob (inI64 ((↑i.val : Int) + (1 : Int))) ∧ ∃ (j : { i : Nat // i ≤ p.ops.length }), (p.ops.length - j.val).succ.le
  (p.ops.length - i.val) ∧ True ∧ flat (List.map opdLine (List.take i.val p.ops)) ++ opdLine (p.ops.getD i.val opd0) ++ [(59 : UInt8), (10 : UInt8)] = flat (List.map opdLine
  (List.take j.val p.ops)) ∧ (↑i.val : Int) + (1 : Int) = (↑j.val : Int) ∧ ((p.ops.length = p.ops.length ∧ ∀ (i : Nat), i < p.ops.length → cOpd (p.ops.getD i opd0) = cOpd
  (p.ops.getD i opd0)) ∧ (p.ins.length = p.ins.length ∧ ∀ (i : Nat), i < p.ins.length → cIns (p.ins.getD i ins0) = cIns (p.ins.getD i ins0)) ∧ p.mons.length = p.mons.length ∧ ∀
  (i : Nat), i < p.mons.length → cMon (p.mons.getD i mon0) = cMon (p.mons.getD i mon0)) ∧ True) ∧ (decide ((↑i.val : Int) < (↑p.ops.length : Int)) = false → (∃ (j :
  { i : Nat // i ≤ p.ins.length }), True ∧ flat (List.map opdLine (List.take i.val p.ops)) = flat (List.map opdLine p.ops ++ List.map (insL p) (List.take j.val p.ins)) ∧ (0 :
  Int) = (↑j.val : Int) ∧ ((p.ops.length = p.ops.length ∧ ∀ (i : Nat), i < p.ops.length → cOpd (p.ops.getD i opd0) = cOpd (p.ops.getD i opd0)) ∧ (p.ins.length = p.ins.length ∧ ∀
  (i : Nat), i < p.ins.length → cIns (p.ins.getD i ins0) = cIns (p.ins.getD i ins0)) ∧ p.mons.length = p.mons.length ∧ ∀ (i : Nat), i < p.mons.length → cMon (p.mons.getD i mon0)
  = cMon (p.mons.getD i mon0)) ∧ True) ∧ ∀ (i : { i : Nat // i ≤ p.ins.length }), (decide ((↑i.val : Int) < (↑p.ins.length : Int)) = true → Ob ((0 : Int) ≤ (↑i.val : Int) ∧
  (↑i.val : Int) < (↑p.ins.length : Int)) ∧ Ob ((0 : Int) ≤ (p.ins.getD i.val ins0).op ∧ (p.ins.getD i.val ins0).op < (↑opNames.length : Int)) ∧ Ob (List.length (flat (List.map
  opdLine p.ops ++ List.map (insL p) (List.take i.val p.ins))) + List.length (opNames.getD (p.ins.getD i.val ins0).op.toNat []) ≤ (9223372036854775807 : Nat)) ∧ ∃ (j :
  { x : Nat × Nat // x.fst < p.ins.length ∧ x.snd ≤ (argsAt p x.fst).length }), (True ∧ flat (List.map opdLine p.ops ++ List.map (insL p) (List.take i.val p.ins)) ++ opNames.getD
  (p.ins.getD i.val ins0).op.toNat [] = flat (List.map opdLine p.ops ++ List.map (insL p) (List.take j.val.fst p.ins)) ++ opNames.getD (p.ins.getD j.val.fst ins0).op.toNat [] ++
  argsT (List.take j.val.snd (argNames p (p.ins.getD j.val.fst ins0))) ∧ (↑i.val : Int) = (↑j.val.fst : Int) ∧ True ∧ (0 : Int) = (↑j.val.snd : Int) ∧ ((p.ops.length =
  p.ops.length ∧ ∀ (i : Nat), i < p.ops.length → cOpd (p.ops.getD i opd0) = cOpd (p.ops.getD i opd0)) ∧ (p.ins.length = p.ins.length ∧ ∀ (i : Nat), i < p.ins.length → cIns
  (p.ins.getD i ins0) = cIns (p.ins.getD i ins0)) ∧ p.mons.length = p.mons.length ∧ ∀ (i : Nat), i < p.mons.length → cMon (p.mons.getD i mon0) = cMon (p.mons.getD i mon0)) ∧
  ((p.ins.getD i.val ins0).op = (p.ins.getD j.val.fst ins0).op ∧ (p.ins.getD i.val ins0).args.length = (argsAt p j.val.fst).length ∧ ∀ (i_1 : Nat), i_1 < (argsAt p
  j.val.fst).length → [AV.int IntKind.i64 ((p.ins.getD i.val ins0).args.getD i_1 (0 : Int))] = [AV.int IntKind.i64 ((argsAt p j.val.fst).getD i_1 (0 : Int))]) ∧ True) ∧ ∀ (i_1 :
  { x : Nat × Nat // x.fst < p.ins.length ∧ x.snd ≤ (argsAt p x.fst).length }), key i_1.val.fst ((argsAt p i_1.val.fst).length - i_1.val.snd) / (4294967296 : Nat) = key j.val.fst
  ((argsAt p j.val.fst).length - j.val.snd) / (4294967296 : Nat) → (decide ((↑i_1.val.snd : Int) < (↑(argsAt p i_1.val.fst).length : Int)) = true → (decide ((↑i_1.val.snd : Int)
  = (0 : Int)) = true → Ob (List.length (flat (List.map opdLine p.ops ++ List.map (insL p) (List.take i_1.val.fst p.ins)) ++ opNames.getD (p.ins.getD i_1.val.fst ins0).op.toNat
  [] ++ argsT (List.take i_1.val.snd (argNames p (p.ins.getD i_1.val.fst ins0)))) + [(32 : UInt8)].length ≤ (9223372036854775807 : Nat)) ∧ Ob ((0 : Int) ≤ (↑i_1.val.snd : Int) ∧
  (↑i_1.val.snd : Int) < (↑(argsAt p i_1.val.fst).length : Int)) ∧ Ob ((0 : Int) ≤ (argsAt p i_1.val.fst).getD i_1.val.snd (0 : Int) ∧ (argsAt p i_1.val.fst).getD i_1.val.snd (0
  : Int) < (↑p.ops.length : Int)) ∧ Ob ((flat (List.map opdLine p.ops ++ List.map (insL p) (List.take i_1.val.fst p.ins)) ++ opNames.getD (p.ins.getD i_1.val.fst ins0).op.toNat
  [] ++ argsT (List.take i_1.val.snd (argNames p (p.ins.getD i_1.val.fst ins0))) ++ [(32 : UInt8)]).length + List.length (p.ops.getD ((argsAt p i_1.val.fst).getD i_1.val.snd (0 :
  Int)).toNat opd0).name ≤ (9223372036854775807 : Nat)) ∧ Ob (inI64 ((↑i_1.val.snd : Int) + (1 : Int))) ∧ ∃ (j_1 :
  { x : Nat × Nat // x.fst < p.ins.length ∧ x.snd ≤ (argsAt p x.fst).length }), key j_1.val.fst ((argsAt p j_1.val.fst).length - j_1.val.snd) / (4294967296 : Nat) = key j.val.fst
  ((argsAt p j.val.fst).length - j.val.snd) / (4294967296 : Nat) ∧ (key j_1.val.fst ((argsAt p j_1.val.fst).length - j_1.val.snd)).succ.le (key i_1.val.fst ((argsAt p
  i_1.val.fst).length - i_1.val.snd)) ∧ True ∧ flat (List.map opdLine p.ops ++ List.map (insL p) (List.take i_1.val.fst p.ins)) ++ opNames.getD (p.ins.getD i_1.val.fst
  ins0).op.toNat [] ++ argsT (List.take i_1.val.snd (argNames p (p.ins.getD i_1.val.fst ins0))) ++ [(32 : UInt8)] ++ (p.ops.getD ((argsAt p i_1.val.fst).getD i_1.val.snd (0 :
  Int)).toNat opd0).name = flat (List.map opdLine p.ops ++ List.map (insL p) (List.take j_1.val.fst p.ins)) ++ opNames.getD (p.ins.getD j_1.val.fst ins0).op.toNat [] ++ argsT
  (List.take j_1.val.snd (argNames p (p.ins.getD j_1.val.fst ins0))) ∧ (↑i_1.val.fst : Int) = (↑j_1.val.fst : Int) ∧ True ∧ (↑i_1.val.snd : Int) + (1 : Int) = (↑j_1.val.snd :
  Int) ∧ ((p.ops.length = p.ops.length ∧ ∀ (i : Nat), i < p.ops.length → cOpd (p.ops.getD i opd0) = cOpd (p.ops.getD i opd0)) ∧ (p.ins.length = p.ins.length ∧ ∀ (i : Nat), i <
  p.ins.length → cIns (p.ins.getD i ins0) = cIns (p.ins.getD i ins0)) ∧ p.mons.length = p.mons.length ∧ ∀ (i : Nat), i < p.mons.length → cMon (p.mons.getD i mon0) = cMon
  (p.mons.getD i mon0)) ∧ ((p.ins.getD i_1.val.fst ins0).op = (p.ins.getD j_1.val.fst ins0).op ∧ (argsAt p i_1.val.fst).length = (argsAt p j_1.val.fst).length ∧ ∀ (i : Nat), i <
  (argsAt p j_1.val.fst).length → [AV.int IntKind.i64 ((argsAt p i_1.val.fst).getD i (0 : Int))] = [AV.int IntKind.i64 ((argsAt p j_1.val.fst).getD i (0 : Int))]) ∧ True) ∧
  (decide ((↑i_1.val.snd : Int) = (0 : Int)) = false → Ob (List.length (flat (List.map opdLine p.ops ++ List.map (insL p) (List.take i_1.val.fst p.ins)) ++ opNames.getD
  (p.ins.getD i_1.val.fst ins0).op.toNat [] ++ argsT (List.take i_1.val.snd (argNames p (p.ins.getD i_1.val.fst ins0)))) + [(44 : UInt8)].length ≤ (9223372036854775807 : Nat)) ∧
  Ob ((0 : Int) ≤ (↑i_1.val.snd : Int) ∧ (↑i_1.val.snd : Int) < (↑(argsAt p i_1.val.fst).length : Int)) ∧ Ob ((0 : Int) ≤ (argsAt p i_1.val.fst).getD i_1.val.snd (0 : Int) ∧
  (argsAt p i_1.val.fst).getD i_1.val.snd (0 : Int) < (↑p.ops.length : Int)) ∧ Ob ((flat (List.map opdLine p.ops ++ List.map (insL p) (List.take i_1.val.fst p.ins)) ++
  opNames.getD (p.ins.getD i_1.val.fst ins0).op.toNat [] ++ argsT (List.take i_1.val.snd (argNames p (p.ins.getD i_1.val.fst ins0))) ++ [(44 : UInt8)]).length + List.length
  (p.ops.getD ((argsAt p i_1.val.fst).getD i_1.val.snd (0 : Int)).toNat opd0).name ≤ (9223372036854775807 : Nat)) ∧ Ob (inI64 ((↑i_1.val.snd : Int) + (1 : Int))) ∧ ∃ (j_1 :
  { x : Nat × Nat // x.fst < p.ins.length ∧ x.snd ≤ (argsAt p x.fst).length }), key j_1.val.fst ((argsAt p j_1.val.fst).length - j_1.val.snd) / (4294967296 : Nat) = key j.val.fst
  ((argsAt p j.val.fst).length - j.val.snd) / (4294967296 : Nat) ∧ (key j_1.val.fst ((argsAt p j_1.val.fst).length - j_1.val.snd)).succ.le (key i_1.val.fst ((argsAt p
  i_1.val.fst).length - i_1.val.snd)) ∧ True ∧ flat (List.map opdLine p.ops ++ List.map (insL p) (List.take i_1.val.fst p.ins)) ++ opNames.getD (p.ins.getD i_1.val.fst
  ins0).op.toNat [] ++ argsT (List.take i_1.val.snd (argNames p (p.ins.getD i_1.val.fst ins0))) ++ [(44 : UInt8)] ++ (p.ops.getD ((argsAt p i_1.val.fst).getD i_1.val.snd (0 :
  Int)).toNat opd0).name = flat (List.map opdLine p.ops ++ List.map (insL p) (List.take j_1.val.fst p.ins)) ++ opNames.getD (p.ins.getD j_1.val.fst ins0).op.toNat [] ++ argsT
  (List.take j_1.val.snd (argNames p (p.ins.getD j_1.val.fst ins0))) ∧ (↑i_1.val.fst : Int) = (↑j_1.val.fst : Int) ∧ True ∧ (↑i_1.val.snd : Int) + (1 : Int) = (↑j_1.val.snd :
  Int) ∧ ((p.ops.length = p.ops.length ∧ ∀ (i : Nat), i < p.ops.length → cOpd (p.ops.getD i opd0) = cOpd (p.ops.getD i opd0)) ∧ (p.ins.length = p.ins.length ∧ ∀ (i : Nat), i <
  p.ins.length → cIns (p.ins.getD i ins0) = cIns (p.ins.getD i ins0)) ∧ p.mons.length = p.mons.length ∧ ∀ (i : Nat), i < p.mons.length → cMon (p.mons.getD i mon0) = cMon
  (p.mons.getD i mon0)) ∧ ((p.ins.getD i_1.val.fst ins0).op = (p.ins.getD j_1.val.fst ins0).op ∧ (argsAt p i_1.val.fst).length = (argsAt p j_1.val.fst).length ∧ ∀ (i : Nat), i <
  (argsAt p j_1.val.fst).length → [AV.int IntKind.i64 ((argsAt p i_1.val.fst).getD i (0 : Int))] = [AV.int IntKind.i64 ((argsAt p j_1.val.fst).getD i (0 : Int))]) ∧ True)) ∧
  (decide ((↑i_1.val.snd : Int) < (↑(argsAt p i_1.val.fst).length : Int)) = false → Ob (List.length (flat (List.map opdLine p.ops ++ List.map (insL p) (List.take i_1.val.fst
  p.ins)) ++ opNames.getD (p.ins.getD i_1.val.fst ins0).op.toNat [] ++ argsT (List.take i_1.val.snd (argNames p (p.ins.getD i_1.val.fst ins0)))) + [(59 : UInt8), (10 :
  UInt8)].length ≤ (9223372036854775807 : Nat)) ∧ Ob (inI64 ((↑i_1.val.fst : Int) + (1 : Int))) ∧ ∃ (j : { i : Nat // i ≤ p.ins.length }), (p.ins.length - j.val).succ.le
  (p.ins.length - i.val) ∧ True ∧ flat (List.map opdLine p.ops ++ List.map (insL p) (List.take i_1.val.fst p.ins)) ++ opNames.getD (p.ins.getD i_1.val.fst ins0).op.toNat [] ++
  argsT (List.take i_1.val.snd (argNames p (p.ins.getD i_1.val.fst ins0))) ++ [(59 : UInt8), (10 : UInt8)] = flat (List.map opdLine p.ops ++ List.map (insL p) (List.take j.val
  p.ins)) ∧ (↑i_1.val.fst : Int) + (1 : Int) = (↑j.val : Int) ∧ ((p.ops.length = p.ops.length ∧ ∀ (i : Nat), i < p.ops.length → cOpd (p.ops.getD i opd0) = cOpd (p.ops.getD i
  opd0)) ∧ (p.ins.length = p.ins.length ∧ ∀ (i : Nat), i < p.ins.length → cIns (p.ins.getD i ins0) = cIns (p.ins.getD i ins0)) ∧ p.mons.length = p.mons.length ∧ ∀ (i : Nat), i <
  p.mons.length → cMon (p.mons.getD i mon0) = cMon (p.mons.getD i mon0)) ∧ True)) ∧ (decide ((↑i.val : Int) < (↑p.ins.length : Int)) = false → (∃ (j :
  { i : Nat // i ≤ p.mons.length }), True ∧ flat (List.map opdLine p.ops ++ List.map (insL p) (List.take i.val p.ins)) = flat (List.map opdLine p.ops ++ List.map (insL p) p.ins
  ++ List.map monLine (List.take j.val p.mons)) ∧ (0 : Int) = (↑j.val : Int) ∧ ((p.ops.length = p.ops.length ∧ ∀ (i : Nat), i < p.ops.length → cOpd (p.ops.getD i opd0) = cOpd
  (p.ops.getD i opd0)) ∧ (p.ins.length = p.ins.length ∧ ∀ (i : Nat), i < p.ins.length → cIns (p.ins.getD i ins0) = cIns (p.ins.getD i ins0)) ∧ p.mons.length = p.mons.length ∧ ∀
  (i : Nat), i < p.mons.length → cMon (p.mons.getD i mon0) = cMon (p.mons.getD i mon0)) ∧ True) ∧ ∀ (i : { i : Nat // i ≤ p.mons.length }), (decide ((↑i.val : Int) <
  (↑p.mons.length : Int)) = true → Ob ((0 : Int) ≤ (↑i.val : Int) ∧ (↑i.val : Int) < (↑p.mons.length : Int)) ∧ Ob (List.length (flat (List.map opdLine p.ops ++ List.map (insL p)
  p.ins ++ List.map monLine (List.take i.val p.mons))) + [(77 : UInt8), (79 : UInt8), (78 : UInt8), (73 : UInt8), (84 : UInt8), (79 : UInt8), (82 : UInt8), (32 : UInt8)].length ≤
  (9223372036854775807 : Nat)) ∧ Ob ((0 : Int) ≤ (p.mons.getD i.val mon0).fr ∧ (p.mons.getD i.val mon0).fr < (9223372036854775807 : Int)) ∧ Ob ((flat (List.map opdLine p.ops ++
  List.map (insL p) p.ins ++ List.map monLine (List.take i.val p.mons)) ++ [(77 : UInt8), (79 : UInt8), (78 : UInt8), (73 : UInt8), (84 : UInt8), (79 : UInt8), (82 : UInt8), (32
  : UInt8)]).length + (Lib.itoa (p.mons.getD i.val mon0).fr).length ≤ (9223372036854775807 : Nat)) ∧ Ob ((flat (List.map opdLine p.ops ++ List.map (insL p) p.ins ++ List.map
  monLine (List.take i.val p.mons)) ++ [(77 : UInt8), (79 : UInt8), (78 : UInt8), (73 : UInt8), (84 : UInt8), (79 : UInt8), (82 : UInt8), (32 : UInt8)] ++ Lib.itoa (p.mons.getD
  i.val mon0).fr).length + [(32 : UInt8)].length ≤ (9223372036854775807 : Nat)) ∧ Ob ((0 : Int) ≤ (p.mons.getD i.val mon0).to ∧ (p.mons.getD i.val mon0).to < (9223372036854775807
  : Int)) ∧ Ob ((flat (List.map opdLine p.ops ++ List.map (insL p) p.ins ++ List.map monLine (List.take i.val p.mons)) ++ [(77 : UInt8), (79 : UInt8), (78 : UInt8), (73 : UInt8),
  (84 : UInt8), (79 : UInt8), (82 : UInt8), (32 : UInt8)] ++ Lib.itoa (p.mons.getD i.val mon0).fr ++ [(32 : UInt8)]).length + (Lib.itoa (p.mons.getD i.val mon0).to).length ≤
  (9223372036854775807 : Nat)) ∧ Ob ((flat (List.map opdLine p.ops ++ List.map (insL p) p.ins ++ List.map monLine (List.take i.val p.mons)) ++ [(77 : UInt8), (79 : UInt8), (78 :
  UInt8), (73 : UInt8), (84 : UInt8), (79 : UInt8), (82 : UInt8), (32 : UInt8)] ++ Lib.itoa (p.mons.getD i.val mon0).fr ++ [(32 : UInt8)] ++ Lib.itoa (p.mons.getD i.val
  mon0).to).length + [(32 : UInt8)].length ≤ (9223372036854775807 : Nat)) ∧ Ob ((0 : Int) ≤ (p.mons.getD i.val mon0).ex ∧ (p.mons.getD i.val mon0).ex < (9223372036854775807 :
  Int)) ∧ Ob ((flat (List.map opdLine p.ops ++ List.map (insL p) p.ins ++ List.map monLine (List.take i.val p.mons)) ++ [(77 : UInt8), (79 : UInt8), (78 : UInt8), (73 : UInt8),
  (84 : UInt8), (79 : UInt8), (82 : UInt8), (32 : UInt8)] ++ Lib.itoa (p.mons.getD i.val mon0).fr ++ [(32 : UInt8)] ++ Lib.itoa (p.mons.getD i.val mon0).to ++ [(32 :
  UInt8)]).length + (Lib.itoa (p.mons.getD i.val mon0).ex).length ≤ (9223372036854775807 : Nat)) ∧ Ob ((flat (List.map opdLine p.ops ++ List.map (insL p) p.ins ++ List.map
  monLine (List.take i.val p.mons)) ++ [(77 : UInt8), (79 : UInt8), (78 : UInt8), (73 : UInt8), (84 : UInt8), (79 : UInt8), (82 : UInt8), (32 : UInt8)] ++ Lib.itoa (p.mons.getD
  i.val mon0).fr ++ [(32 : UInt8)] ++ Lib.itoa (p.mons.getD i.val mon0).to ++ [(32 : UInt8)] ++ Lib.itoa (p.mons.getD i.val mon0).ex).length + [(32 : UInt8)].length ≤
  (9223372036854775807 : Nat)) ∧ Ob ((0 : Int) ≤ (p.mons.getD i.val mon0).hd ∧ (p.mons.getD i.val mon0).hd < (9223372036854775807 : Int)) ∧ Ob ((flat (List.map opdLine p.ops ++
  List.map (insL p) p.ins ++ List.map monLine (List.take i.val p.mons)) ++ [(77 : UInt8), (79 : UInt8), (78 : UInt8), (73 : UInt8), (84 : UInt8), (79 : UInt8), (82 : UInt8), (32
  : UInt8)] ++ Lib.itoa (p.mons.getD i.val mon0).fr ++ [(32 : UInt8)] ++ Lib.itoa (p.mons.getD i.val mon0).to ++ [(32 : UInt8)] ++ Lib.itoa (p.mons.getD i.val mon0).ex ++ [(32 :
  UInt8)]).length + (Lib.itoa (p.mons.getD i.val mon0).hd).length ≤ (9223372036854775807 : Nat)) ∧ Ob ((flat (List.map opdLine p.ops ++ List.map (insL p) p.ins ++ List.map
  monLine (List.take i.val p.mons)) ++ [(77 : UInt8), (79 : UInt8), (78 : UInt8), (73 : UInt8), (84 : UInt8), (79 : UInt8), (82 : UInt8), (32 : UInt8)] ++ Lib.itoa (p.mons.getD
  i.val mon0).fr ++ [(32 : UInt8)] ++ Lib.itoa (p.mons.getD i.val mon0).to ++ [(32 : UInt8)] ++ Lib.itoa (p.mons.getD i.val mon0).ex ++ [(32 : UInt8)] ++ Lib.itoa (p.mons.getD
  i.val mon0).hd).length + [(59 : UInt8), (10 : UInt8)].length ≤ (9223372036854775807 : Nat)) ∧ Ob (inI64 ((↑i.val : Int) + (1 : Int))) ∧ ∃ (j :
  { i : Nat // i ≤ p.mons.length }), (p.mons.length - j.val).succ.le (p.mons.length - i.val) ∧ True ∧ flat (List.map opdLine p.ops ++ List.map (insL p) p.ins ++ List.map monLine
  (List.take i.val p.mons)) ++ [(77 : UInt8), (79 : UInt8), (78 : UInt8), (73 : UInt8), (84 : UInt8), (79 : UInt8), (82 : UInt8), (32 : UInt8)] ++ Lib.itoa (p.mons.getD i.val
  mon0).fr ++ [(32 : UInt8)] ++ Lib.itoa (p.mons.getD i.val mon0).to ++ [(32 : UInt8)] ++ Lib.itoa (p.mons.getD i.val mon0).ex ++ [(32 : UInt8)] ++ Lib.itoa (p.mons.getD i.val
  mon0).hd ++ [(59 : UInt8), (10 : UInt8)] = flat (List.map opdLine p.ops ++ List.map (insL p) p.ins ++ List.map monLine (List.take j.val p.mons)) ∧ (↑i.val : Int) + (1 : Int) =
  (↑j.val : Int) ∧ ((p.ops.length = p.ops.length ∧ ∀ (i : Nat), i < p.ops.length → cOpd (p.ops.getD i opd0) = cOpd (p.ops.getD i opd0)) ∧ (p.ins.length = p.ins.length ∧ ∀ (i :
  Nat), i < p.ins.length → cIns (p.ins.getD i ins0) = cIns (p.ins.getD i ins0)) ∧ p.mons.length = p.mons.length ∧ ∀ (i : Nat), i < p.mons.length → cMon (p.mons.getD i mon0) =
  cMon (p.mons.getD i mon0)) ∧ True) ∧ (decide ((↑i.val : Int) < (↑p.mons.length : Int)) = false → flat (List.map opdLine p.ops ++ List.map (insL p) p.ins ++ List.map monLine
  (List.take i.val p.mons)) = progText p)))) (by kernel_rfl) ?_⟩
    have hP := prgOk_of hV
    have h1 := hV.nops
    have h2 := hV.nins
    have h3 := hV.nmons
    have h19 : (opNames.length : Int) = 19 := rfl
    have hfl : ∀ L : List Str, (∀ l ∈ L, l.length ≤ 20300) → L.length ≤ 70 → (flat L).length ≤ 1500000 := fun L hL hn => by
      have := flat_len hL
      have h4 : L.length * (20300 + 2) ≤ 70 * (20300 + 2) := Nat.mul_le_mul_right _ hn
      omega
    have hO : ∀ i, ∀ l ∈ (p.ops.take i).map opdLine, l.length ≤ 20300 := fun i l hl => by
      obtain ⟨o, ho, rfl⟩ := List.mem_map.1 hl
      exact opdLine_len (hP.ops o (List.mem_of_mem_take ho))
    have hI : ∀ i, ∀ l ∈ (p.ins.take i).map (insL p), l.length ≤ 20300 := fun i l hl => by
      obtain ⟨x, hx, rfl⟩ := List.mem_map.1 hl
      have hx := List.mem_of_mem_take hx
      have := (insLine_len (hP.ins x hx).1 (hP.ins x hx).2.1 (by rw [argNames, List.length_map]; exact args_len (hV.ins x hx)) (argNames_ok hP hx)).1
      unfold insL
      omega
    have hM : ∀ i, ∀ l ∈ (p.mons.take i).map monLine, l.length ≤ 20300 := fun i l hl => by
      obtain ⟨x, hx, rfl⟩ := List.mem_map.1 hl
      have := monLine_len (hP.mons x (List.mem_of_mem_take hx))
      omega
    have hO' := hO p.ops.length
    have hI' := hI p.ins.length
    rw [List.take_length] at hO' hI'
    have hOI : ∀ i, ∀ l ∈ p.ops.map opdLine ++ (p.ins.take i).map (insL p), l.length ≤ 20300 := fun i l hl => by
      rcases List.mem_append.1 hl with h | h
      · exact hO' l h
      · exact hI i l h
    have hOM : ∀ i, ∀ l ∈ p.ops.map opdLine ++ p.ins.map (insL p) ++ (p.mons.take i).map monLine, l.length ≤ 20300 := fun i l hl => by
      rcases List.mem_append.1 hl with h | h
      · rcases List.mem_append.1 h with h | h
        · exact hO' l h
        · exact hI' l h
      · exact hM i l h
    simp only [Ob_iff, inI64, true_and, and_true, implies_true]
    refine ⟨⟨⟨0, Nat.zero_le _⟩, rfl, rfl⟩, ?_⟩
    rintro ⟨i, hi⟩
    dsimp only
    refine And.intro (fun h => ?_) (fun h => ?_)
    · have h' := lt_of_dec h
      have ho := opdOk_of hV h'
      have hb := opdLine_len ho
      have hf := hfl _ (hO i) (by rw [List.length_map, List.length_take]; omega)
      refine ⟨⟨by omega, by omega⟩, ho, by omega, by simp only [List.length_append, List.length_cons, List.length_nil]; omega, ⟨by omega, by omega⟩, ⟨i + 1, h'⟩, sub_step h', ?_, rfl⟩
      dsimp only
      rw [← take_step opdLine opd0 h', flat_snoc]
    · have := ge_of_dec h hi
      subst this
      rw [List.take_length]
      refine And.intro ⟨⟨0, Nat.zero_le _⟩, by simp, rfl⟩ ?_
      clear h hi
      rintro ⟨i, hi⟩
      dsimp only
      refine And.intro (fun h => ?_) (fun h => ?_)
      · have h' := lt_of_dec h
        have hmem := getD_mem (d := ins0) h'
        have ha : (argsAt p i).length ≤ 3 := args_len (hV.ins _ hmem)
        have hx := hP.ins _ hmem
        have hw := opName_len (p.ins.getD i ins0).op.toNat (by omega)
        have hf := hfl _ (hOI i) (by simp only [List.length_append, List.length_map, List.length_take]; omega)
        refine ⟨⟨by omega, by omega⟩, ⟨hx.1, by omega⟩, by omega, ⟨(i, 0), h', Nat.zero_le _⟩, ⟨by rw [List.take_zero]; simp [argsT], rfl, rfl, rfl, rfl, fun _ _ => rfl⟩, ?_⟩
        rintro ⟨⟨i2, k⟩, hi2, hk⟩ hkey
        dsimp only at hi2 hk hkey ⊢
        have ha2 : (argsAt p i2).length ≤ 3 := args_len (hV.ins _ (getD_mem (d := ins0) hi2))
        rw [key_div (by omega), key_div (by omega)] at hkey
        subst hkey
        have hnl : (argNames p (p.ins.getD i2 ins0)).length = (argsAt p i2).length := by unfold argNames argsAt; rw [List.length_map]
        have hnm := argNames_ok hP hmem
        have hat := argsT_len (l := (argNames p (p.ins.getD i2 ins0)).take k) (fun a ha => (name_len (hnm a (List.mem_of_mem_take ha))).2) (by rw [List.length_take]; omega)
        refine And.intro (fun h4 => ?_) (fun h4 => ?_)
        · have h4' := lt_of_dec h4
          have hb : 0 ≤ (argsAt p i2).getD k 0 ∧ (argsAt p i2).getD k 0 < (p.ops.length : Int) := hx.2.2 _ (getD_mem (d := (0 : Int)) h4')
          have hst : (argNames p (p.ins.getD i2 ins0)).take (k + 1) = (argNames p (p.ins.getD i2 ins0)).take k ++ [(p.ops.getD ((argsAt p i2).getD k 0).toNat opd0).name] := by
            unfold argNames
            rw [← List.map_take, ← List.map_take]
            exact (take_step (fun a : Int => (p.ops.getD a.toNat opd0).name) 0 h4').symm
          have hon : ((p.ops.getD ((argsAt p i2).getD k 0).toNat opd0).name).length ≤ 10 := (name_len (opdOk_of hV (i := ((argsAt p i2).getD k 0).toNat) (by omega)).name).2
          have hke : (argNames p (p.ins.getD i2 ins0)).take k = [] ↔ k = 0 := by
            rw [← List.length_eq_zero_iff, List.length_take]
            omega
          have k1 : key i2 ((argsAt p i2).length - (k + 1)) / 4294967296 = key i2 ((argsAt p i2).length - 0) / 4294967296 := by rw [key_div (by omega), key_div (by omega)]
          have k2 : key i2 ((argsAt p i2).length - (k + 1)) < key i2 ((argsAt p i2).length - k) := by unfold key; omega
          refine And.intro (fun h5 => ?_) (fun h5 => ?_)
          · have h5 := of_decide_eq_true h5
            refine ⟨by simp only [List.length_append, List.length_cons, List.length_nil]; omega, ⟨by omega, by omega⟩, hb, by simp only [List.length_append, List.length_cons, List.length_nil]; omega, ⟨by omega, by omega⟩, ⟨(i2, k + 1), h', h4'⟩, k1, k2, ?_, rfl, rfl, rfl, rfl, fun _ _ => rfl⟩
            dsimp only
            rw [hst, argsT_snoc, if_pos (hke.2 (by omega))]
            simp only [List.append_assoc]
          · have h5 := of_decide_eq_false h5
            refine ⟨by simp only [List.length_append, List.length_cons, List.length_nil]; omega, ⟨by omega, by omega⟩, hb, by simp only [List.length_append, List.length_cons, List.length_nil]; omega, ⟨by omega, by omega⟩, ⟨(i2, k + 1), h', h4'⟩, k1, k2, ?_, rfl, rfl, rfl, rfl, fun _ _ => rfl⟩
            dsimp only
            rw [hst, argsT_snoc, if_neg (fun e => h5 (by rw [hke.1 e]; rfl))]
            simp only [List.append_assoc]
        · have := ge_of_dec h4 hk
          subst this
          refine ⟨by simp only [List.length_append, List.length_cons, List.length_nil]; omega, ⟨by omega, by omega⟩, ⟨i2 + 1, h'⟩, sub_step h', ?_, rfl⟩
          dsimp only
          rw [List.take_of_length_le (l := argNames p (p.ins.getD i2 ins0)) (by omega), ← take_step (insL p) ins0 h', ← List.append_assoc, flat_snoc, insL_args]
          simp only [List.append_assoc]
      · have := ge_of_dec h hi
        subst this
        rw [List.take_length]
        refine And.intro ⟨⟨0, Nat.zero_le _⟩, by simp, rfl⟩ ?_
        clear h hi
        rintro ⟨i, hi⟩
        dsimp only
        refine And.intro (fun h => ?_) (fun h => ?_)
        · have h' := lt_of_dec h
          have hx := hP.mons _ (getD_mem (d := mon0) h')
          have hf := hfl _ (hOM i) (by simp only [List.length_append, List.length_map, List.length_take]; omega)
          have g1 := itoa_len (n := (p.mons.getD i mon0).fr) (by omega) (by omega)
          have g2 := itoa_len (n := (p.mons.getD i mon0).to) (by omega) (by omega)
          have g3 := itoa_len (n := (p.mons.getD i mon0).ex) (by omega) (by omega)
          have g4 := itoa_len (n := (p.mons.getD i mon0).hd) (by omega) (by omega)
          have hs := take_step monLine mon0 h'
          simp only [List.length_append, List.length_cons, List.length_nil] at hf ⊢
          refine ⟨⟨by omega, by omega⟩, by omega, ⟨by omega, by omega⟩, by omega, by omega, ⟨by omega, by omega⟩, by omega, by omega, ⟨by omega, by omega⟩, by omega, by omega, ⟨by omega, by omega⟩, by omega, by omega, ⟨by omega, by omega⟩, ⟨i + 1, h'⟩, sub_step h', ?_, rfl⟩
          dsimp only
          rw [← hs, ← List.append_assoc, flat_snoc]
          simp only [monLine, sMON, List.append_assoc, List.cons_append, List.nil_append]
        · have := ge_of_dec h hi
          subst this
          rw [List.take_length]
          rfl
  · exact (Tr.run_fail hr).elim
end Go.Proofs.YtgcnbicoajjlaaaGreatDoor
end
section
set_option linter.unusedVariables false
set_option linter.unusedSimpArgs false
set_option maxRecDepth 100000
namespace Go.Proofs.YtgcnbicoajjlaaaGreatDoor
open Go Go.Eng Go.Tx
variable {m : Int}
noncomputable def lnZ : List AV := [.int .i64 0, .int .i64 0, .str [], .int .i64 0, .int .i64 0, .int .i64 0, .int .i64 0, .int .i64 0, .str [], .str [], .int .i64 0, .int .i64 0, .int .i64 0, .nilS, .int .i64 0, .int .i64 0, .int .i64 0, .int .i64 0]
noncomputable def inv25 (l : List Str) : Eng.Inv :=
  ⟨{ j : Nat // j ≤ l.length ∧ ∀ k, k < j → natOk (l.getD k []) = true }, fun j => [(2, .ptr 2 0), (11, .row 90), (51, slStrs l), (52, I l.length), (53, I j.1)], fun j => [(2, .box lnZ false), (90, .row 3 1 ((l.take j.1).map fun x => cInt (atoiN x)) false)], fun j => l.length - j.1⟩
noncomputable def aLn (x : Ln) : AV := .agg (cLn x)
noncomputable def ReadP (s t c r : Str) (b q : Bool) (D : Opd × Bool) (l a : List Str) (ix : Int) (R : Ln × Bool) : Prop :=
  ((b = true → Ob (t.length ≤ (10000 : Nat)) ∧ Ob ((bif D.snd then isName D.fst.name else false) = true → aOpd D.fst = aOpd D.fst ∧ opdWr D.fst) ∧ ((0 : Int) = R.fst.at_ ∧ (1 :
  Int) = R.fst.part ∧ D.fst.name = R.fst.opd.name ∧ D.fst.kind = R.fst.opd.kind ∧ D.fst.ty.k = R.fst.opd.ty.k ∧ D.fst.ty.l = R.fst.opd.ty.l ∧ D.fst.ty.s = R.fst.opd.ty.s ∧
  D.fst.n = R.fst.opd.n ∧ D.fst.v = R.fst.opd.v ∧ D.fst.base = R.fst.opd.base ∧ D.fst.off = R.fst.opd.off ∧ D.fst.tgt = R.fst.opd.tgt ∧ (0 : Int) = R.fst.op ∧ R.fst.args.length =
  (0 : Nat) ∧ (0 : Int) = R.fst.mon.fr ∧ (0 : Int) = R.fst.mon.to ∧ (0 : Int) = R.fst.mon.ex ∧ (0 : Int) = R.fst.mon.hd) ∧ (bif bif D.snd then isName D.fst.name else false then
  decide (opdLine D.fst = s) else false) = R.snd) ∧ (b = false → Ob (List.length s < (4294967281 : Nat)) ∧ (decide (c = [(77 : UInt8), (79 : UInt8), (78 : UInt8), (73 : UInt8),
  (84 : UInt8), (79 : UInt8), (82 : UInt8)]) = true → Ob (r.length < (4294967281 : Nat) ∧ (1 : Nat) ≤ [(32 : UInt8)].length) ∧ (∃ (j :
  { j : Nat // j ≤ l.length ∧ ∀ (k : Nat), k < j → natOk (l.getD k []) = true }), True ∧ True ∧ (l.length = l.length ∧ ∀ (i : Nat), i < l.length → [AV.str (l.getD i [])] =
  [AV.str (l.getD i [])]) ∧ (↑l.length : Int) = (↑l.length : Int) ∧ (0 : Int) = (↑j.val : Int) ∧ ((0 : Int) = (0 : Int) ∧ (0 : Int) = (0 : Int) ∧ ([] : Str) = [] ∧ (0 : Int) = (0
  : Int) ∧ (0 : Int) = (0 : Int) ∧ (0 : Int) = (0 : Int) ∧ (0 : Int) = (0 : Int) ∧ (0 : Int) = (0 : Int) ∧ ([] : Str) = [] ∧ ([] : Str) = [] ∧ (0 : Int) = (0 : Int) ∧ (0 : Int) =
  (0 : Int) ∧ (0 : Int) = (0 : Int) ∧ True ∧ (0 : Int) = (0 : Int) ∧ (0 : Int) = (0 : Int) ∧ (0 : Int) = (0 : Int) ∧ (0 : Int) = (0 : Int)) ∧ List.map (fun (x : Str) => cInt
  (atoiN x)) (List.take j.val l) = [] ∧ True) ∧ ∀ (i : { j : Nat // j ≤ l.length ∧ ∀ (k : Nat), k < j → natOk (l.getD k []) = true }), (decide ((↑i.val : Int) < (↑l.length :
  Int)) = true → Ob ((0 : Int) ≤ (↑i.val : Int) ∧ (↑i.val : Int) < (↑l.length : Int)) ∧ Ob (List.length (l.getD i.val []) ≤ (281474976710656 : Nat)) ∧ ((!natOk (l.getD i.val []))
  = true → ((0 : Int) = R.fst.at_ ∧ (0 : Int) = R.fst.part ∧ [] = R.fst.opd.name ∧ (0 : Int) = R.fst.opd.kind ∧ (0 : Int) = R.fst.opd.ty.k ∧ (0 : Int) = R.fst.opd.ty.l ∧ (0 :
  Int) = R.fst.opd.ty.s ∧ (0 : Int) = R.fst.opd.n ∧ [] = R.fst.opd.v ∧ [] = R.fst.opd.base ∧ (0 : Int) = R.fst.opd.off ∧ (0 : Int) = R.fst.opd.tgt ∧ (0 : Int) = R.fst.op ∧
  R.fst.args.length = (0 : Nat) ∧ (0 : Int) = R.fst.mon.fr ∧ (0 : Int) = R.fst.mon.to ∧ (0 : Int) = R.fst.mon.ex ∧ (0 : Int) = R.fst.mon.hd) ∧ false = R.snd) ∧ ((!natOk (l.getD
  i.val [])) = false → Ob ((List.map (fun (x : Str) => cInt (atoiN x)) (List.take i.val l)).length + (elsOf (1 : Nat) fun (i_1 : Nat) => List.take (1 : Nat) (List.drop (i_1 * (1
  : Nat)) [AV.int IntKind.i64 (atoiN (l.getD i.val []))])).length ≤ (1048576 : Nat)) ∧ Ob (inI64 ((↑i.val : Int) + (1 : Int))) ∧ ∃ (j :
  { j : Nat // j ≤ l.length ∧ ∀ (k : Nat), k < j → natOk (l.getD k []) = true }), (l.length - j.val).succ.le (l.length - i.val) ∧ True ∧ True ∧ (l.length = l.length ∧ ∀ (i :
  Nat), i < l.length → [AV.str (l.getD i [])] = [AV.str (l.getD i [])]) ∧ (↑l.length : Int) = (↑l.length : Int) ∧ (↑i.val : Int) + (1 : Int) = (↑j.val : Int) ∧ ((0 : Int) = (0 :
  Int) ∧ (0 : Int) = (0 : Int) ∧ ([] : Str) = [] ∧ (0 : Int) = (0 : Int) ∧ (0 : Int) = (0 : Int) ∧ (0 : Int) = (0 : Int) ∧ (0 : Int) = (0 : Int) ∧ (0 : Int) = (0 : Int) ∧ ([] :
  Str) = [] ∧ ([] : Str) = [] ∧ (0 : Int) = (0 : Int) ∧ (0 : Int) = (0 : Int) ∧ (0 : Int) = (0 : Int) ∧ True ∧ (0 : Int) = (0 : Int) ∧ (0 : Int) = (0 : Int) ∧ (0 : Int) = (0 :
  Int) ∧ (0 : Int) = (0 : Int)) ∧ (List.map (fun (x : Str) => cInt (atoiN x)) (List.take i.val l) ++ elsOf (1 : Nat) fun (i_1 : Nat) => List.take (1 : Nat) (List.drop (i_1 * (1 :
  Nat)) [AV.int IntKind.i64 (atoiN (l.getD i.val []))])) = List.map (fun (x : Str) => cInt (atoiN x)) (List.take j.val l) ∧ True)) ∧ (decide ((↑i.val : Int) < (↑l.length : Int))
  = false → ((!decide ((↑(List.map (fun (x : Str) => cInt (atoiN x)) (List.take i.val l)).length : Int) = (4 : Int))) = true → ((0 : Int) = R.fst.at_ ∧ (0 : Int) = R.fst.part ∧
  [] = R.fst.opd.name ∧ (0 : Int) = R.fst.opd.kind ∧ (0 : Int) = R.fst.opd.ty.k ∧ (0 : Int) = R.fst.opd.ty.l ∧ (0 : Int) = R.fst.opd.ty.s ∧ (0 : Int) = R.fst.opd.n ∧ [] =
  R.fst.opd.v ∧ [] = R.fst.opd.base ∧ (0 : Int) = R.fst.opd.off ∧ (0 : Int) = R.fst.opd.tgt ∧ (0 : Int) = R.fst.op ∧ R.fst.args.length = (0 : Nat) ∧ (0 : Int) = R.fst.mon.fr ∧ (0
  : Int) = R.fst.mon.to ∧ (0 : Int) = R.fst.mon.ex ∧ (0 : Int) = R.fst.mon.hd) ∧ false = R.snd) ∧ ((!decide ((↑(List.map (fun (x : Str) => cInt (atoiN x)) (List.take i.val
  l)).length : Int) = (4 : Int))) = false → Ob ((0 : Int) ≤ (0 : Int) ∧ (0 : Int) < (↑(List.map (fun (x : Str) => cInt (atoiN x)) (List.take i.val l)).length : Int)) ∧ Ob
  (Int.toNat (0 : Int) < (List.map (fun (x : Str) => cInt (atoiN x)) (List.take i.val l)).length) ∧ Ob (likes [AV.int IntKind.i64 0] (rdCells ((List.map (fun (x : Str) => cInt
  (atoiN x)) (List.take i.val l)).getD (Int.toNat (0 : Int)) []) (0 : Nat) 1) = rdCells ((List.map (fun (x : Str) => cInt (atoiN x)) (List.take i.val l)).getD (Int.toNat (0 :
  Int)) []) (0 : Nat) 1) ∧ Ob ((0 : Int) ≤ (1 : Int) ∧ (1 : Int) < (↑(List.map (fun (x : Str) => cInt (atoiN x)) (List.take i.val l)).length : Int)) ∧ Ob (Int.toNat (1 : Int) <
  (List.map (fun (x : Str) => cInt (atoiN x)) (List.take i.val l)).length) ∧ Ob (likes [AV.int IntKind.i64 0] (rdCells ((List.map (fun (x : Str) => cInt (atoiN x)) (List.take
  i.val l)).getD (Int.toNat (1 : Int)) []) (0 : Nat) 1) = rdCells ((List.map (fun (x : Str) => cInt (atoiN x)) (List.take i.val l)).getD (Int.toNat (1 : Int)) []) (0 : Nat) 1) ∧
  Ob ((0 : Int) ≤ (2 : Int) ∧ (2 : Int) < (↑(List.map (fun (x : Str) => cInt (atoiN x)) (List.take i.val l)).length : Int)) ∧ Ob (Int.toNat (2 : Int) < (List.map (fun (x : Str)
  => cInt (atoiN x)) (List.take i.val l)).length) ∧ Ob (likes [AV.int IntKind.i64 0] (rdCells ((List.map (fun (x : Str) => cInt (atoiN x)) (List.take i.val l)).getD (Int.toNat (2
  : Int)) []) (0 : Nat) 1) = rdCells ((List.map (fun (x : Str) => cInt (atoiN x)) (List.take i.val l)).getD (Int.toNat (2 : Int)) []) (0 : Nat) 1) ∧ Ob ((0 : Int) ≤ (3 : Int) ∧
  (3 : Int) < (↑(List.map (fun (x : Str) => cInt (atoiN x)) (List.take i.val l)).length : Int)) ∧ Ob (Int.toNat (3 : Int) < (List.map (fun (x : Str) => cInt (atoiN x)) (List.take
  i.val l)).length) ∧ Ob (likes [AV.int IntKind.i64 0] (rdCells ((List.map (fun (x : Str) => cInt (atoiN x)) (List.take i.val l)).getD (Int.toNat (3 : Int)) []) (0 : Nat) 1) =
  rdCells ((List.map (fun (x : Str) => cInt (atoiN x)) (List.take i.val l)).getD (Int.toNat (3 : Int)) []) (0 : Nat) 1) ∧ ((0 : Int) = R.fst.at_ ∧ (3 : Int) = R.fst.part ∧ [] =
  R.fst.opd.name ∧ (0 : Int) = R.fst.opd.kind ∧ (0 : Int) = R.fst.opd.ty.k ∧ (0 : Int) = R.fst.opd.ty.l ∧ (0 : Int) = R.fst.opd.ty.s ∧ (0 : Int) = R.fst.opd.n ∧ [] = R.fst.opd.v
  ∧ [] = R.fst.opd.base ∧ (0 : Int) = R.fst.opd.off ∧ (0 : Int) = R.fst.opd.tgt ∧ (0 : Int) = R.fst.op ∧ R.fst.args.length = (0 : Nat) ∧ avInt (hdAV (rdCells ((List.map (fun (x :
  Str) => cInt (atoiN x)) (List.take i.val l)).getD (Int.toNat (0 : Int)) []) (0 : Nat) 1)) = R.fst.mon.fr ∧ avInt (hdAV (rdCells ((List.map (fun (x : Str) => cInt (atoiN x))
  (List.take i.val l)).getD (Int.toNat (1 : Int)) []) (0 : Nat) 1)) = R.fst.mon.to ∧ avInt (hdAV (rdCells ((List.map (fun (x : Str) => cInt (atoiN x)) (List.take i.val l)).getD
  (Int.toNat (2 : Int)) []) (0 : Nat) 1)) = R.fst.mon.ex ∧ avInt (hdAV (rdCells ((List.map (fun (x : Str) => cInt (atoiN x)) (List.take i.val l)).getD (Int.toNat (3 : Int)) [])
  (0 : Nat) 1)) = R.fst.mon.hd) ∧ true = R.snd))) ∧ (decide (c = [(77 : UInt8), (79 : UInt8), (78 : UInt8), (73 : UInt8), (84 : UInt8), (79 : UInt8), (82 : UInt8)]) = false → Ob
  (∃ (l : List Str), eqv (slStrs l) (AV.sl false (1 : Nat) (19 : Nat) fun (i : Nat) => [AV.str (opNames.getD i [])])) ∧ (q = true → Ob (r.length < (4294967281 : Nat) ∧ (1 : Nat)
  ≤ [(44 : UInt8)].length) ∧ Ob (decide ((0 : Int) ≤ ix) = true → ∃ (l : List Str), eqv (slStrs l) (slStrs a)) ∧ ((0 : Int) = R.fst.at_ ∧ (2 : Int) = R.fst.part ∧ [] =
  R.fst.opd.name ∧ (0 : Int) = R.fst.opd.kind ∧ (0 : Int) = R.fst.opd.ty.k ∧ (0 : Int) = R.fst.opd.ty.l ∧ (0 : Int) = R.fst.opd.ty.s ∧ (0 : Int) = R.fst.opd.n ∧ [] = R.fst.opd.v
  ∧ [] = R.fst.opd.base ∧ (0 : Int) = R.fst.opd.off ∧ (0 : Int) = R.fst.opd.tgt ∧ ix = R.fst.op ∧ (a.length = R.fst.args.length ∧ ∀ (i : Nat), i < R.fst.args.length → [AV.str
  (a.getD i [])] = [AV.str (R.fst.args.getD i [])]) ∧ (0 : Int) = R.fst.mon.fr ∧ (0 : Int) = R.fst.mon.to ∧ (0 : Int) = R.fst.mon.ex ∧ (0 : Int) = R.fst.mon.hd) ∧ (bif decide ((0
  : Int) ≤ ix) then !!(strs (slStrs a)).all isName else false) = R.snd) ∧ (q = false → Ob (decide ((0 : Int) ≤ ix) = true → ∃ (l : List Str), eqv (slStrs l) AV.nilS) ∧ ((0 : Int)
  = R.fst.at_ ∧ (2 : Int) = R.fst.part ∧ [] = R.fst.opd.name ∧ (0 : Int) = R.fst.opd.kind ∧ (0 : Int) = R.fst.opd.ty.k ∧ (0 : Int) = R.fst.opd.ty.l ∧ (0 : Int) = R.fst.opd.ty.s ∧
  (0 : Int) = R.fst.opd.n ∧ [] = R.fst.opd.v ∧ [] = R.fst.opd.base ∧ (0 : Int) = R.fst.opd.off ∧ (0 : Int) = R.fst.opd.tgt ∧ ix = R.fst.op ∧ R.fst.args.length = (0 : Nat) ∧ (0 :
  Int) = R.fst.mon.fr ∧ (0 : Int) = R.fst.mon.to ∧ (0 : Int) = R.fst.mon.ex ∧ (0 : Int) = R.fst.mon.hd) ∧ (bif decide ((0 : Int) ≤ ix) then !!(strs AV.nilS).all isName else
  false) = R.snd))))
theorem read_key {s t c r : Str} {b q : Bool} {D : Opd × Bool} {l a : List Str} {ix : Int} {R : Ln × Bool} (hs : s.length ≤ 10000) (ht : t.length ≤ 10000) (hr : r.length ≤ 10000) (hw : D.2 = true → opdWr D.1) (hl : ∀ i, i < l.length → (l.getD i []).length ≤ 10000) (hll : l.length ≤ 20000)
    (hR : R = if b = true then ({ ln0 with part := 1, opd := D.1 }, D.2 && isName D.1.name && decide (opdLine D.1 = s))
      else if c = sMON then (if l.all natOk = false ∨ l.length ≠ 4 then (ln0, false) else ({ ln0 with part := 3, mon := ⟨atoiN (l.getD 0 []), atoiN (l.getD 1 []), atoiN (l.getD 2 []), atoiN (l.getD 3 [])⟩ }, true))
      else ({ ln0 with part := 2, op := ix, args := if q = true then a else [] }, decide (0 ≤ ix) && (if q = true then a else []).all isName)) : ReadP s t c r b q D l a ix R := by
  unfold ReadP
  have e1 : ∀ j, j < l.length → (List.map (fun (x : Str) => cInt (atoiN x)) (List.take j l) ++ elsOf (1 : Nat) fun (i_1 : Nat) => List.take (1 : Nat) (List.drop (i_1 * (1 : Nat)) [AV.int IntKind.i64 (atoiN (l.getD j []))])) = List.map (fun (x : Str) => cInt (atoiN x)) (List.take (j + 1) l) := fun j hj => by
    rw [List.take_succ_eq_append_getElem hj, List.map_append, List.getD_eq_getElem?_getD, List.getElem?_eq_getElem hj]
    rfl
  refine And.intro (fun hb => ?_) (fun hb => And.intro ⟨by omega⟩ (And.intro (fun hc => ?_) (fun hc => ?_)))
  · rw [if_pos hb] at hR
    subst hR
    refine And.intro ⟨ht⟩ (And.intro ⟨fun h => ⟨rfl, hw ?_⟩⟩ (And.intro ⟨rfl, rfl, rfl, rfl, rfl, rfl, rfl, rfl, rfl, rfl, rfl, rfl, rfl, rfl, rfl, rfl, rfl, rfl⟩ ?_))
    · rw [band_c, Bool.and_eq_true] at h
      exact h.1
    · simp only [band_c]
  · have hc' : c = sMON := of_decide_eq_true hc
    rw [if_neg (by simp [hb]), if_pos hc'] at hR
    refine And.intro ⟨by omega, by decide⟩ (And.intro ⟨⟨0, Nat.zero_le _, below_zero⟩, trivial, trivial, ⟨rfl, fun _ _ => rfl⟩, rfl, rfl, ⟨rfl, rfl, rfl, rfl, rfl, rfl, rfl, rfl, rfl, rfl, rfl, rfl, rfl, trivial, rfl, rfl, rfl, rfl⟩, rfl, trivial⟩ ?_)
    rintro ⟨j, hj, hk⟩
    dsimp only
    refine And.intro (fun h => ?_) (fun h => ?_)
    · have hlt : j < l.length := Int.ofNat_lt.1 (of_decide_eq_true h)
      refine And.intro ⟨Int.natCast_nonneg j, of_decide_eq_true h⟩ (And.intro ⟨by have := hl j hlt; omega⟩ (And.intro (fun h2 => ?_) (fun h2 => And.intro ?_ (And.intro ?_ ?_))))
      · have h3 : l.all natOk = false := by
          rw [List.all_eq_false]
          refine ⟨l.getD j [], ?_, by simpa using h2⟩
          rw [List.getD_eq_getElem?_getD, List.getElem?_eq_getElem hlt]
          exact List.getElem_mem hlt
        rw [if_pos (.inl h3)] at hR
        subst hR
        exact ⟨⟨rfl, rfl, rfl, rfl, rfl, rfl, rfl, rfl, rfl, rfl, rfl, rfl, rfl, rfl, rfl, rfl, rfl, rfl⟩, rfl⟩
      · refine ⟨?_⟩
        rw [List.length_map, List.length_take, show ∀ f, (elsOf 1 f).length = 1 from fun f => rfl]
        omega
      · refine ⟨?_, ?_⟩ <;> omega
      · exact ⟨⟨j + 1, hlt, below_succ hk (by simpa using h2)⟩, sub_step hlt, trivial, trivial, ⟨rfl, fun _ _ => rfl⟩, rfl, rfl, ⟨rfl, rfl, rfl, rfl, rfl, rfl, rfl, rfl, rfl, rfl, rfl, rfl, rfl, trivial, rfl, rfl, rfl, rfl⟩, e1 j hlt, trivial⟩
    · have hge : j = l.length := by
        have := of_decide_eq_false h
        omega
      subst hge
      rw [List.take_length, List.length_map]
      refine And.intro (fun h2 => ?_) (fun h2 => ?_)
      · have h3 : l.length ≠ 4 := fun e => by simp [e] at h2
        rw [if_pos (.inr h3)] at hR
        subst hR
        exact ⟨⟨rfl, rfl, rfl, rfl, rfl, rfl, rfl, rfl, rfl, rfl, rfl, rfl, rfl, rfl, rfl, rfl, rfl, rfl⟩, rfl⟩
      · have h3 : l.length = 4 := by simp at h2; omega
        have h4 : l.all natOk = true := by
          rw [List.all_eq_true]
          intro x hx
          obtain ⟨k, hk1, rfl⟩ := List.getElem_of_mem hx
          have := hk k hk1
          rw [List.getD_eq_getElem?_getD, List.getElem?_eq_getElem hk1] at this
          exact this
        rw [if_neg (by rw [h4, h3]; simp)] at hR
        subst hR
        match l, h3 with
        | [x0, x1, x2, x3], _ =>
          exact ⟨⟨by decide, by show (0:Int) < 4; decide⟩, ⟨by show 0 < 4; decide⟩, ⟨rfl⟩, ⟨by decide, by show (1:Int) < 4; decide⟩, ⟨by show 1 < 4; decide⟩, ⟨rfl⟩, ⟨by decide, by show (2:Int) < 4; decide⟩, ⟨by show 2 < 4; decide⟩, ⟨rfl⟩, ⟨by decide, by show (3:Int) < 4; decide⟩, ⟨by show 3 < 4; decide⟩, ⟨rfl⟩, ⟨rfl, rfl, rfl, rfl, rfl, rfl, rfl, rfl, rfl, rfl, rfl, rfl, rfl, rfl, rfl, rfl, rfl, rfl⟩, rfl⟩
  · have hc' : ¬ c = sMON := of_decide_eq_false hc
    rw [if_neg (by simp [hb]), if_neg hc'] at hR
    refine And.intro ⟨opNames, rfl, fun _ _ => rfl⟩ (And.intro (fun hq => And.intro ⟨by omega, by decide⟩ (And.intro ⟨fun _ => ⟨a, slStrs_refl a⟩⟩ ?_)) (fun hq => And.intro ⟨fun _ => ⟨[], rfl⟩⟩ ?_))
    · rw [if_pos hq] at hR
      subst hR
      refine ⟨⟨rfl, rfl, rfl, rfl, rfl, rfl, rfl, rfl, rfl, rfl, rfl, rfl, rfl, ⟨rfl, fun _ _ => rfl⟩, rfl, rfl, rfl, rfl⟩, ?_⟩
      simp only [band_c, strs_sl, Bool.not_not]
    · rw [if_neg (by simp [hq])] at hR
      subst hR
      refine ⟨⟨rfl, rfl, rfl, rfl, rfl, rfl, rfl, rfl, rfl, rfl, rfl, rfl, rfl, rfl, rfl, rfl, rfl, rfl⟩, ?_⟩
      simp only [band_c, Bool.not_not]
      rfl
end Go.Proofs.YtgcnbicoajjlaaaGreatDoor
end
section
set_option linter.unusedVariables false
set_option linter.unusedSimpArgs false
set_option maxRecDepth 100000
namespace Go.Proofs.YtgcnbicoajjlaaaGreatDoor
open Go Go.Eng Go.Tx
variable {m : Int}
theorem parse_wr {s : Str} (h : (parseNum s).1 = true) : numberOk (parseNum s).2.1 (parseNum s).2.2 = true := by
  by_cases he : parseErr s = 0
  · obtain ⟨h1, h2, h3, h4, h5⟩ := parse_yes he
    have hd := digs_all h1
    have hv := digitsVal_in hd h4
    rw [h5]
    have hc : (Lib.cut (s.drop (minus s)) [46]).2.1.length ≤ (parseAll s).length := by
      unfold parseAll
      rw [List.length_append]
      omega
    simp only [numberOk, decide_eq_true_eq]
    split <;> omega
  · rw [parse_no he] at h
    cases h
theorem idxOf_lt (l : List Str) (s : Str) : idxOf l s < (l.length : Int) := by rw [← findI_idx]; exact (findI_ge _ l).2
theorem typeOf_wr {s : Str} (h : (typeOf s).2 = true) : tyWr (typeOf s).1 := by
  have hlt := idxOf_lt kindWords (Lib.cut s [40]).1
  have h4 : (kindWords.length : Int) = 4 := rfl
  have a1 := atoiN_in
  unfold typeOf at h ⊢
  simp only at h ⊢
  split at h
  · cases h
  · rename_i h1
    rw [if_neg h1]
    split at h
    · rename_i h2
      rw [if_pos h2]
      exact ⟨by dsimp only; omega, by dsimp only; omega, a1 _, ⟨by show (-9223372036854775808 : Int) ≤ 0; decide, by show (0 : Int) ≤ 9223372036854775807; decide⟩⟩
    · rename_i h2
      rw [if_neg h2]
      have h3 : ¬ idxOf kindWords (Lib.cut s [40]).1 < 0 := fun e => h1 (.inl e)
      exact ⟨by dsimp only; omega, by dsimp only; omega, a1 _, a1 _⟩
theorem bytesOf_le : ∀ (s acc : Str), (bytesOf acc s).1.length ≤ acc.length + s.length
  | [], acc => by simp [bytesOf]
  | [a], acc => by simp [bytesOf]
  | a :: b :: r, acc => by
    unfold bytesOf
    split
    · simp
    · have := bytesOf_le r (acc ++ [UInt8.ofNat ((Lib.indexByte hexds a).toNat * 16 + (Lib.indexByte hexds b).toNat)])
      simp only [List.length_append, List.length_cons, List.length_nil] at this ⊢
      omega
theorem replaceK_le {old new : Str} (h : new.length ≤ old.length) : ∀ (k : Nat) (s : Str), (Lib.replaceK old new k s).length ≤ s.length
  | 0, s => Nat.le_refl _
  | k + 1, s => by
    unfold Lib.replaceK
    split
    · exact Nat.le_refl _
    · rename_i hn
      have hg := Lib.index_ge s old
      have h0 : 0 ≤ Lib.index s old := by
        rcases Int.lt_or_le (Lib.index s old) 0 with h1 | h1
        · exact absurd (beq_iff_eq.2 (show Lib.index s old = -1 by omega)) hn
        · exact h1
      have hr := Lib.index_room s old h0
      have ih := replaceK_le h k (s.drop ((Lib.index s old).toNat + old.length))
      rw [List.length_drop] at ih
      simp only [List.length_append, List.length_take]
      omega
theorem replaceAll_le {old new s : Str} (h : new.length ≤ old.length) : (Lib.replaceAll s old new).length ≤ s.length := by
  unfold Lib.replaceAll Lib.replace
  split
  · exact Nat.le_refl _
  · exact replaceK_le h _ s
theorem valueOf_wr {t : Ty} {s : Str} (hs : s.length ≤ 10000) (h : (valueOf t s).2.2 = true) : valWr t (valueOf t s).1 (valueOf t s).2.1 := by
  have hp := trimPrefix_le s [88]
  unfold valueOf at h ⊢
  by_cases hk : t.k ≠ 0
  · rw [if_pos hk] at h ⊢
    simp only [Bool.and_eq_true, decide_eq_true_eq] at h ⊢
    have := parse_wr h.1
    rw [h.2] at this
    exact ⟨fun _ => this, Nat.zero_le _⟩
  · rw [if_neg hk] at h ⊢
    simp only at h ⊢
    split at h
    · cases h
    · rename_i h1
      rw [if_neg h1]
      have hm : ((List.drop 1 (Lib.trimPrefix s [88])).take ((Lib.trimPrefix s [88]).length - 2)).length ≤ 10000 := by
        rw [List.length_take, List.length_drop]; omega
      refine ⟨fun h0 => absurd h0 hk, ?_⟩
      split
      · have := bytesOf_le ((List.drop 1 (Lib.trimPrefix s [88])).take ((Lib.trimPrefix s [88]).length - 2)) []
        simp only [List.length_nil] at this
        dsimp only
        omega
      · have := replaceAll_le (s := (List.drop 1 (Lib.trimPrefix s [88])).take ((Lib.trimPrefix s [88]).length - 2)) (old := [39, 39]) (new := [39]) (by decide)
        dsimp only
        omega
theorem declared_wr {s : Str} (hs : s.length ≤ 10000) (h : (declared s).2 = true) : opdWr (declared s).1 := by
  have c1 := cut_le s [32]
  have c2 := cut_le (Lib.cut s [32]).2.1 [32]
  have c3 := cut_le (Lib.cut (Lib.cut s [32]).2.1 [32]).2.1 [32]
  have c4 := cut_le (Lib.cut (Lib.cut (Lib.cut s [32]).2.1 [32]).2.1 [32]).2.1 [40]
  have c5 := trimSuffix_le (Lib.cut (Lib.cut (Lib.cut (Lib.cut s [32]).2.1 [32]).2.1 [32]).2.1 [40]).2.1 [41]
  have c6 := cut_le (Lib.trimSuffix (Lib.cut (Lib.cut (Lib.cut (Lib.cut s [32]).2.1 [32]).2.1 [32]).2.1 [40]).2.1 [41]) [44]
  have a1 := atoiN_in
  unfold declared at h ⊢
  simp only at h ⊢
  split at h
  · rename_i h1
    rw [if_pos h1]
    exact ⟨by dsimp only; omega, Nat.zero_le _, fun hk => by simp at hk, fun hk => by simp at hk, fun hk => by simp at hk⟩
  · rename_i h1
    rw [if_neg h1]
    split at h
    · rename_i h2
      rw [if_pos h2]
      exact ⟨by dsimp only; omega, Nat.zero_le _, fun hk => by simp at hk, fun hk => by simp at hk, fun hk => a1 _⟩
    · rename_i h2
      rw [if_neg h2]
      split at h
      · cases h
      · rename_i h3
        rw [if_neg h3]
        split at h
        · cases h
        · rename_i h4
          rw [if_neg h4]
          have ht : tyWr (typeOf (Lib.cut (Lib.cut (Lib.cut s [32]).2.1 [32]).2.1 [32]).1).1 := typeOf_wr (by
            cases hq : (typeOf (Lib.cut (Lib.cut (Lib.cut s [32]).2.1 [32]).2.1 [32]).1).2 with
            | true => rfl
            | false => exact absurd (.inl hq) h4)
          split at h
          · rename_i h5
            rw [if_pos h5]
            have hv := valueOf_wr (by omega) h
            refine ⟨by dsimp only; omega, Nat.zero_le _, fun hk => ⟨ht, hv⟩, fun hk => ?_, fun hk => ?_⟩
            · dsimp only at hk
              split at hk <;> omega
            · dsimp only at hk
              split at hk <;> omega
          · rename_i h5
            rw [if_neg h5]
            simp only [Bool.and_eq_true, decide_eq_true_eq] at h
            refine ⟨by dsimp only; omega, by dsimp only; omega, fun hk => ?_, fun hk => ⟨ht, a1 _⟩, fun hk => ?_⟩
            · dsimp only at hk
              exfalso
              split at hk
              · omega
              · split at hk
                · omega
                · rename_i n1 n2
                  exact h.1.2 (by rw [if_neg n1, if_neg n2])
            · dsimp only at hk
              exfalso
              apply hk
              split
              · omega
              · split
                · omega
                · omega
theorem splitK_facts (sep : Str) : ∀ (k : Nat) (s : Str), (∀ p ∈ Lib.splitK sep 0 k s, p.length ≤ s.length) ∧ (Lib.splitK sep 0 k s).length ≤ k + 1
  | 0, s => by simp [Lib.splitK]
  | k + 1, s => by
    unfold Lib.splitK
    split
    · simp
    · obtain ⟨i1, i2⟩ := splitK_facts sep k (s.drop ((Lib.index s sep).toNat + sep.length))
      constructor
      · intro p hp
        rcases List.mem_cons.1 hp with rfl | hp
        · rw [List.length_take]; omega
        · have := i1 p hp
          rw [List.length_drop] at this
          omega
      · simp only [List.length_cons]; omega
theorem split_facts (s sep : Str) : (∀ p ∈ Lib.split s sep, p.length ≤ s.length) ∧ (Lib.split s sep).length ≤ s.length + 2 := by
  obtain ⟨h1, h2⟩ := splitK_facts sep (Lib.count s sep) s
  have := Lib.count_le s sep
  exact ⟨h1, by unfold Lib.split; omega⟩
noncomputable def Cread : Con
  | [.str s] => .need (s.length ≤ 10000) (.ret (.tup [aLn (readLine s).1, .prop (readLine s).2]))
  | _ => .fail
theorem ok25 : Ok m 25 Cread := fn_ok2 (cons_cons ok42 (cons_cons ok43 (cons_cons ok44 (cons_cons ok15 (cons_cons ok23 (cons_cons ok45 (cons_cons ok46 (cons_cons ok47 (cons_cons ok48 cons_nil))))))))) Tryz.func25 (by kernel_rfl) fun xs r hr hp => by
  unfold Cread at hr
  split at hr
  · rename_i s
    obtain ⟨hs, hr⟩ := Tr.run_need hr
    have e := Tr.run_ret hr
    subst e
    clear hr hp
    have c1 := cut_le s [32]
    have t1 := trimPrefix_le s sDCLsp
    obtain ⟨s1, s2⟩ := split_facts (Lib.cut s [32]).2.1 [32]
    refine ⟨_, [(0, inv25 (Lib.split (Lib.cut s [32]).2.1 [32]))], args_self _, of_nice (ReadP s (Lib.trimPrefix s sDCLsp) (Lib.cut s [32]).1 (Lib.cut s [32]).2.1 (Lib.hasPrefix s sDCLsp) (Lib.cut s [32]).2.2 (declared (Lib.trimPrefix s sDCLsp)) (Lib.split (Lib.cut s [32]).2.1 [32]) (Lib.split (Lib.cut s [32]).2.1 [44]) (idxOf opNames (Lib.cut s [32]).1) (readLine s)) (by kernel_rfl) ?_⟩
    refine read_key hs (by omega) (by omega) (fun h => declared_wr (by omega) h) (fun i hi => ?_) (by omega) ?_
    · have := s1 _ (List.getElem_mem hi)
      rw [List.getD_eq_getElem?_getD, List.getElem?_eq_getElem hi]
      exact Nat.le_trans this (by omega)
    · unfold readLine
      rfl
  · exact (Tr.run_fail hr).elim
end Go.Proofs.YtgcnbicoajjlaaaGreatDoor
end
section
set_option linter.unusedVariables false
set_option linter.unusedSimpArgs false
set_option maxRecDepth 100000
namespace Go.Proofs.YtgcnbicoajjlaaaGreatDoor
open Go Go.Eng Go.Tx Go.RowKit
variable {m : Int}
theorem info3 : (Tryz.prog.info? 3).map (fun i => (i.zero, i.size, i.bytes)) = some (some (.int .i64 0), 1, 8) := by kernel_rfl
theorem size3 : (Tryz.prog.info? 3).map (·.size) = some 1 := by kernel_rfl
noncomputable def filled (j n : Nat) : Array Value := (List.replicate j (Value.int .i64 (-1)) ++ List.replicate (n - j) (Value.int .i64 0)).toArray
theorem made_filled (n : Nat) : madeCells #[Value.int .i64 0] n = filled 0 n := by
  apply Array.ext
  · simp [filled, madeCells]
  · intro i h1 h2
    simp [filled, madeCells, Nat.mod_one]
theorem filled_size {j n : Nat} (h : j ≤ n) : (filled j n).size = n := by simp [filled]; omega
theorem filled_step {j k n : Nat} (h : j + k ≤ n) : ((filled j n).toList.take j ++ List.replicate k (Value.int .i64 (-1)) ++ (filled j n).toList.drop (j + (List.replicate k (Value.int .i64 (-1))).length)).toArray = filled (j + k) n := by
  unfold filled
  rw [List.length_replicate]
  simp only [List.take_left', List.length_replicate]
  rw [List.drop_append, List.length_replicate, List.drop_eq_nil_of_le (by simp), List.nil_append, List.drop_replicate, List.replicate_append_replicate, show n - j - (j + k - j) = n - (j + k) by omega]
theorem filled_all (n : Nat) : filled n n = (List.replicate n (Value.int .i64 (-1))).toArray := by simp [filled]
set_option maxHeartbeats 3200000 in
theorem rep_walk (n : Nat) (hn : n ≤ 1000) (xb xo xc : Nat) (w : World) (hx : w.cell? ⟨xb, xo, none⟩ = some (.int .i64 (-1))) :
    Calls Tryz.prog 97 #[.slice (some ⟨xb, xo, none⟩) 1 xc, .int .i64 n] w fun e w' =>
      e = .returned (.slice (some ⟨w.heap.size, 0, none⟩) n n) ∧ w'.heap[w.heap.size]? = some (.cells (filled n n) 3 (0, 0)) ∧ Below w.heap.size w w' := by
  have hmk := fun w => run_make_row' (P := Tryz.prog) 38 3 (.int .i64 0) 8 Tryz.underlying38 info3 rfl .i64 .i64 n (by omega) (by omega) w
  have hmul := Tryz.bits_Mul 1 n (by omega) (by omega)
  have e0 : ((1 * n / 18446744073709551616 : Nat) : Int) = 0 := by omega
  have e1 : ((1 * n % 18446744073709551616 : Nat) : Int) = n := by omega
  rw [e0, e1] at hmul
  rw [made_filled] at hmk
  have hxl := World.block_lt_of_cell? _ _ hx
  have hb0 : Below w.heap.size w (w.alloc (.cells (filled 0 n) 3)) := Below.alloc (Below.refl _ _) (Nat.le_refl _) _
  obtain ⟨w1, hw1⟩ : ∃ w1, w1 = w.alloc (.cells (filled 0 n) 3) := ⟨_, rfl⟩
  have hg1 : w1.heap[w.heap.size]? = some (.cells (filled 0 n) 3 (0, 0)) := by rw [hw1]; exact heap_alloc_new w _
  rw [← hw1] at hb0
  have hc : ∃ w2, (Builtin.copy_ #[38, 38] 3 #[.slice (some ⟨w.heap.size, 0, none⟩) n n, .slice (some ⟨xb, xo, none⟩) 1 xc]).run Tryz.prog w1 = .ok (.int .i64 (min 1 n : Nat)) w2 ∧
      w2.heap[w.heap.size]? = some (.cells (filled (min 1 n) n) 3 (0, 0)) ∧ Below w.heap.size w w2 := by
    have hf := filled_step (j := 0) (k := min 1 n) (n := n) (by omega)
    have hr := run_copy_row (P := Tryz.prog) w1 38 38 3 3 w.heap.size 0 n n ⟨xb, xo, none⟩ 1 xc (filled 0 n) 3 (List.replicate (min 1 n) (.int .i64 (-1))) Tryz.underlying38 size3 hg1 (by simp [Nat.min_def]) (fun j v hv => ?_) (by rw [filled_size (by omega)]; simp; omega) (fun v hv => ?_)
    · rw [hf] at hr
      rw [List.length_replicate] at hr
      refine ⟨_, hr, ?_, below_setRow hb0 (Nat.le_refl _) _⟩
      rw [Nat.zero_add]
      exact setRow_heap w1 _ _ _ 3 _ hg1
    · rw [List.getElem?_replicate] at hv
      split at hv
      · cases hv
        have hj : j = 0 := by omega
        subst hj
        rw [hw1]
        have : (w.alloc (Obj.cells (filled 0 n) 3)).cell? ⟨xb, xo, none⟩ = w.cell? ⟨xb, xo, none⟩ := Eng.cell_of_block ((Eng.ev_alloc (fun _ => False) w _).block xb hxl (fun h => h))
        exact this.trans hx
      · cases hv
    · rw [List.mem_replicate] at hv
      rw [hv.2]; rfl
  obtain ⟨w2, hc1, hc2, hc3⟩ := hc
  rw [hw1] at hc1
  go_enter Tryz.func97, Tryz.ntmps97
  go_wp2_with (go_at_call 127; refine (hmul _).mono ?_; rintro e w3 ⟨rfl, hw3⟩; subst w3)
  go_loopg [8] (n - min 1 n) (fun k v wr => ∃ j, k = n - j ∧ min 1 n ≤ j ∧ j ≤ n ∧ v = .int .i64 j ∧ wr.heap[w.heap.size]? = some (.cells (filled j n) 3 (0, 0)) ∧ Below w.heap.size w wr)
  case atStart => exact ⟨min 1 n, rfl, Nat.le_refl _, Nat.min_le_right _ _, rfl, hc2, hc3⟩
  case round =>
    obtain ⟨j, hk, hj1, hj, rfl, hgr, hbr⟩ := hrel
    by_cases hlt : j < n
    · have hlt' : (j : Int) < (n : Int) := by omega
      have hne : ¬ n = j := by omega
      have hcj : ∃ w4, (Builtin.copy_ #[38, 38] 3 #[.slice (some ⟨w.heap.size, j, none⟩) (n - j) (n - j), .slice (some ⟨w.heap.size, 0, none⟩) j n]).run Tryz.prog wr.drew = .ok (.int .i64 (min j (n - j) : Nat)) w4 ∧
          w4.heap[w.heap.size]? = some (.cells (filled (j + min j (n - j)) n) 3 (0, 0)) ∧ Below w.heap.size w w4 := by
        have hf := filled_step (j := j) (k := min j (n - j)) (n := n) (by omega)
        have hgd : wr.drew.heap[w.heap.size]? = some (.cells (filled j n) 3 (0, 0)) := hgr
        have hr := run_copy_row (P := Tryz.prog) wr.drew 38 38 3 3 w.heap.size j (n - j) (n - j) ⟨w.heap.size, 0, none⟩ j n (filled j n) 3 (List.replicate (min j (n - j)) (.int .i64 (-1))) Tryz.underlying38 size3 hgd (by simp [Nat.min_def]) (fun k v hv => ?_) (by rw [filled_size (by omega)]; simp; omega) (fun v hv => ?_)
        · rw [hf] at hr
          rw [List.length_replicate] at hr
          refine ⟨_, hr, setRow_heap wr.drew _ _ _ 3 _ hgd, below_setRow hbr.drew (Nat.le_refl _) _⟩
        · rw [List.getElem?_replicate] at hv
          split at hv
          · rename_i hk2
            cases hv
            rw [Addr.add_mid, cell_of_row wr.drew w.heap.size _ (filled j n) 3 (0, 0) hgd]
            have : k < j := by omega
            simp [filled]
            rw [List.getElem?_append_left (by simpa using this), List.getElem?_replicate, if_pos this]
          · cases hv
        · rw [List.mem_replicate] at hv
          rw [hv.2]; rfl
      obtain ⟨w4, hc4, hc5, hc6⟩ := hcj
      go_wp2
      go_region
      go_wp2
      go_roundg (n - (j + min j (n - j)))
      case measure => omega
      case rel => exact ⟨j + min j (n - j), rfl, by omega, by omega, by push_cast; rfl, hc5, hc6⟩
    · obtain rfl : j = n := by omega
      go_wp2
      go_ret
      exact ⟨rfl, hgr, hbr⟩
theorem r_slI {w : World} {st : Stab} {v : AV} {x : Value} {l : List Int} (he : eqv (slInts l) v) (hp : pers v = true) (h : R2 w st noρ v x) : R3 w st noρ (slInts l) x := by
  have hx : R3 w st noρ v x := (by cases v <;> first | exact h | exact h.elim)
  exact eqv_up rfl rfl he hx
theorem ok97 : Ok m 97 Crep := by
  intro xs r hr0 hp
  refine lib_ok (C := fun ys => .need (ys = xs) (Crep ys)) Tryz.func97 (by kernel_rfl) (fun ys r hr w st vals hsta hg ha => ?_) xs r (by simp [Tr.run, hr0]) hp
  clear hr0
  obtain ⟨he, hr0⟩ := Tr.run_need hr
  clear hr
  subst he
  have hr := hr0
  clear hr0
  unfold Crep at hr
  split at hr
  · rename_i v n
    obtain ⟨⟨hl, h0, h1⟩, hr⟩ := Tr.run_need hr
    obtain rfl := Tr.run_ret hr
    obtain ⟨x, y, rfl, hx, hy⟩ := a2 ha
    obtain rfl := a_int hy
    obtain ⟨a, c, b, o, vs, rfl, q1, q2, q3, q4, q5, q6, q7, q8⟩ := R3_sl (r_slI hl (by simp at hp; exact hp.1) hx)
    obtain ⟨k, rfl⟩ : ∃ k : Nat, n = k := ⟨n.toNat, by omega⟩
    have ha0 := q4 (by decide)
    subst ha0
    have hc := q6 0 0 (by decide) (by decide)
    have hv := q8 0 0 (by decide) (by decide)
    have hv' : vs 0 0 = .int .i64 (-1) := R1_int (st := st) (w := w) (ρ := fun _ => .blk 0) hv
    rw [hv'] at hc
    have hc' : w.cell? ⟨b, o, none⟩ = some (.int .i64 (-1)) := by simpa using hc
    refine (rep_walk k (by omega) b o c w hc').mono fun e w' hq => ?_
    obtain ⟨rfl, hgw, hbw⟩ := hq
    refine ⟨_, rfl, st, ev_below hbw, fun _ _ h => h, fun _ _ _ h => h, hsta.keep (ev_below hbw).size, List.replicate k (.int .i64 (-1)), ⟨?_, .inr ⟨w.heap.size, k, filled k k, ?_, Nat.zero_le _, hgw, ?_, ?_, ?_, ?_⟩⟩, ?_, ?_, ?_⟩
    · simp
    · simp
    · simp
    · unfold maxLen; omega
    · rw [filled_size (Nat.le_refl _)]; omega
    · simp [filled]
    · rw [Int.toNat_natCast]
      have : ∀ k : Nat, ((List.replicate k (-1 : Int)).map cInt).flatten = List.replicate k (AV.int .i64 (-1)) := fun k => by
        induction k with
        | zero => rfl
        | succ k ih => rw [List.replicate_succ, List.map_cons, List.flatten_cons, ih, List.replicate_succ]; rfl
      rw [this]
      have : ∀ k : Nat, All2 (PV w' st) (List.replicate k (AV.int .i64 (-1))) (List.replicate k (Value.int .i64 (-1))) := fun k => by
        induction k with
        | zero => exact .nil
        | succ k ih => exact .cons (PV.int _ _) ih
      exact this k
    · intro x hx
      obtain ⟨z, _, rfl⟩ := List.mem_map.1 hx
      rfl
    · intro g hg
      cases hg
      exact ⟨Nat.le_refl _, fun o ho => Nat.lt_irrefl _ (hsta.lt ho)⟩
  · exact (Tr.run_fail hr).elim
end Go.Proofs.YtgcnbicoajjlaaaGreatDoor
end
