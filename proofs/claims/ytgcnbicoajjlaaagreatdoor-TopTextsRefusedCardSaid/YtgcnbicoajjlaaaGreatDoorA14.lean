/-
What is proved: 'midrangetop.TopTextsRefused' returns true for every input, and its arguments read behind the call as they read before (the tied card of the statement 'TopTextsRefused').
  Its conditions: the row's own: the ten listed package-level variables start as the program's text lays them (the card ties them to that text); nothing else is asked.
  Part 14 of 15.
-/
import Derived.Test.YtgcnbicoajjlaaaGreatDoorA13
set_option linter.unusedSectionVars false
set_option linter.unusedVariables false
set_option linter.unusedSimpArgs false
section
set_option linter.unusedVariables false
set_option linter.unusedSimpArgs false
set_option maxRecDepth 100000
namespace Go.Proofs.YtgcnbicoajjlaaaGreatDoor
open Go Go.Eng Go.Tx
variable {m : Int}
theorem fm_step {α : Type} (f : Ln → Option α) {X : List Ln} {i : Nat} (h : i < X.length) : (X.take (i + 1)).filterMap f = (X.take i).filterMap f ++ (f (X.getD i ln0)).toList := by
  rw [List.take_succ_eq_append_getElem h, List.filterMap_append, List.getD_eq_getElem?_getD, List.getElem?_eq_getElem h]
  congr 1
theorem getD_map2 {α β : Type} {f : α → β} {d : α} {e : β} {l : List α} {k : Nat} (h : k < l.length) : (l.map f).getD k e = f (l.getD k d) := by
  rw [List.getD_eq_getElem?_getD, List.getElem?_map, List.getElem?_eq_getElem h, List.getD_eq_getElem?_getD, List.getElem?_eq_getElem h]
  rfl
theorem opds_as (l : List Opd) : eqv (slOpds l) (asSl 10 (l.map cOpd)) := ⟨by simp, fun i hi => map_getD cOpd opd0 hi⟩
theorem lns_as (l : List Ln) : eqv (slLns l) (asSl 18 (l.map cLn)) := ⟨by simp, fun i hi => map_getD cLn ln0 hi⟩
theorem slIntsC (L : List Int) : (AV.sl false 1 (L.map cInt).length fun i => likes [AV.int .i64 0] ((L.map cInt).getD i [])) = slInts L := by
  have : (fun i => likes [AV.int .i64 0] ((L.map cInt).getD i [])) = fun i => [AV.int .i64 (L.getD i 0)] := by
    funext i
    by_cases hi : i < L.length
    · rw [row_get hi]; rfl
    · rw [List.getD_eq_getElem?_getD, List.getElem?_eq_none (by rw [List.length_map]; omega), List.getD_eq_getElem?_getD, List.getElem?_eq_none (by omega)]
      rfl
  rw [this, List.length_map]
  rfl
theorem zero_three (m : Int) (Γ : List (Nat × Con)) : (env m Γ).zero 3 = [AV.int .i64 0] := by kernel_rfl
theorem dec10 : decide ((1 : Int) = ((0 : Nat) : Int)) = false := rfl
theorem dec11 : decide ((1 : Int) = ((1 : Nat) : Int)) = true := rfl
theorem dec12 : decide ((1 : Int) = ((2 : Nat) : Int)) = false := rfl
theorem dec13 : decide ((1 : Int) = ((3 : Nat) : Int)) = false := rfl
theorem dec11' : decide ((1 : Int) = (1 : Int)) = true := rfl
theorem dec13' : decide ((1 : Int) = (3 : Int)) = false := rfl
theorem dec20 : decide ((2 : Int) = ((0 : Nat) : Int)) = false := rfl
theorem dec21 : decide ((2 : Int) = ((1 : Nat) : Int)) = false := rfl
theorem dec22 : decide ((2 : Int) = ((2 : Nat) : Int)) = true := rfl
theorem dec23 : decide ((2 : Int) = ((3 : Nat) : Int)) = false := rfl
theorem dec21' : decide ((2 : Int) = (1 : Int)) = false := rfl
theorem dec23' : decide ((2 : Int) = (3 : Int)) = false := rfl
theorem dec30 : decide ((3 : Int) = ((0 : Nat) : Int)) = false := rfl
theorem dec31 : decide ((3 : Int) = ((1 : Nat) : Int)) = false := rfl
theorem dec32 : decide ((3 : Int) = ((2 : Nat) : Int)) = false := rfl
theorem dec33 : decide ((3 : Int) = ((3 : Nat) : Int)) = true := rfl
theorem dec31' : decide ((3 : Int) = (1 : Int)) = false := rfl
theorem dec33' : decide ((3 : Int) = (3 : Int)) = true := rfl
structure PrgLns (X : List Ln) : Prop where
  valid : Valid (prgOfLns X)
  part : ∀ x ∈ X, x.part = 1 ∨ x.part = 2 ∨ x.part = 3
  len : X.length ≤ 10000
noncomputable def opsL (X : List Ln) : List Opd := X.filterMap lnOpd
noncomputable def lnArgs (X : List Ln) (i : Nat) : List Str := (X.getD i ln0).args
noncomputable def box3 : Blk := .box [.nilS, .nilS, .nilS] false
noncomputable def inv26a (X : List Ln) : Eng.Inv :=
  ⟨{ x : Nat × List Int × List Int × List Int // x.1 ≤ X.length ∧ x.2.1.length ≤ x.1 ∧ x.2.2.1.length ≤ x.1 ∧ x.2.2.2.length ≤ x.1 },
    fun x => [(2, .ptr 2 0), (5, .ptr 5 0), (6, .ptr 6 0), (19, slLns X), (20, I X.length), (21, I x.1.1), (0, slLns X)],
    fun x => [(2, box3), (5, .box [.row 90, .nilS, .row 91] false), (6, .box [.any, .row 92, .row 93, .row 94] false), (90, .row 46 10 (((X.take x.1.1).filterMap lnOpd).map cOpd) false), (91, .row 58 4 (((X.take x.1.1).filterMap lnMon).map cMon) false),
      (92, .row 3 1 (x.1.2.1.map cInt) false), (93, .row 3 1 (x.1.2.2.1.map cInt) false), (94, .row 3 1 (x.1.2.2.2.map cInt) false)], fun x => X.length - x.1.1⟩
noncomputable def inv26b (X : List Ln) : Eng.Inv :=
  ⟨{ i : Nat // i ≤ X.length },
    fun i => [(2, .ptr 2 0), (5, .ptr 5 0), (57, slLns X), (58, I X.length), (59, I i.1)],
    fun i => [(2, box3), (5, .box [.row 90, .row 95, .row 91] false), (90, .row 46 10 ((opsL X).map cOpd) false), (91, .row 58 4 ((X.filterMap lnMon).map cMon) false), (95, .row 48 2 (((X.take i.1).filterMap (lnIns (opsL X))).map cIns) false)], fun i => X.length - i.1⟩
noncomputable def inv26c (X : List Ln) : Eng.Inv :=
  ⟨{ x : Nat × Nat // x.1 < X.length ∧ (X.getD x.1 ln0).part = 2 ∧ x.2 ≤ (lnArgs X x.1).length },
    fun x => [(2, .ptr 2 0), (5, .ptr 5 0), (57, slLns X), (58, I X.length), (59, I x.1.1), (10, .ptr 10 0), (11, .ptr 11 0), (82, slStrs (lnArgs X x.1.1)), (83, I (lnArgs X x.1.1).length), (84, I x.1.2)],
    fun x => [(2, box3), (5, .box [.row 90, .row 95, .row 91] false), (10, .box (cLn (X.getD x.1.1 ln0)) false), (11, .box [I (X.getD x.1.1 ln0).op, .row 96] false), (90, .row 46 10 ((opsL X).map cOpd) false), (91, .row 58 4 ((X.filterMap lnMon).map cMon) false),
      (95, .row 48 2 (((X.take x.1.1).filterMap (lnIns (opsL X))).map cIns) false), (96, .row 3 1 ((((lnArgs X x.1.1).take x.1.2).map (named (opsL X))).map cInt) false)], fun x => key x.1.1 ((lnArgs X x.1.1).length - x.1.2)⟩
noncomputable def CprogOf : Con
  | [v] => .need (∃ X : List Ln, eqv (slLns X) v ∧ PrgLns X) (.ret (.tup [aPrg (prgOfLns (lnsOf v)), .int .i64 0, .int .i64 0]))
  | _ => .fail
theorem ok26 : Ok m 26 CprogOf := fn_ok2 (cons_cons ok50 (cons_cons (ok31 ok97) cons_nil)) Tryz.func26 (by kernel_rfl) fun xs r hr hp => by
  unfold CprogOf at hr
  split at hr
  · rename_i v
    obtain ⟨⟨X, hl, hV⟩, hr⟩ := Tr.run_need hr
    have e := Tr.run_ret hr
    subst e
    rw [lns_eqv hl]
    refine ⟨[slLns X], [(0, inv26a X), (3, inv26b X), (1005, inv26c X)], ⟨.inr ⟨rfl, rfl, hl⟩, trivial⟩, of_nice ((∃ (j : { x : Nat × List Int × List Int × List Int // x.fst ≤ X.length ∧ x.snd.fst.length ≤ x.fst ∧ x.snd.snd.fst.length ≤ x.fst ∧ x.snd.snd.snd.length ≤ x.fst }), True ∧ True ∧
  True ∧ (X.length = X.length ∧ ∀ (i : Nat), i < X.length → cLn (X.getD i ln0) = cLn (X.getD i ln0)) ∧ (↑X.length : Int) = (↑X.length : Int) ∧ (0 : Int) = (↑j.val.fst : Int) ∧
  (X.length = X.length ∧ ∀ (i : Nat), i < X.length → cLn (X.getD i ln0) = cLn (X.getD i ln0)) ∧ (True ∧ True ∧ True) ∧ (True ∧ True ∧ True) ∧ (True ∧ True ∧ True ∧ True) ∧
  List.map cOpd (List.filterMap lnOpd (List.take j.val.fst X)) = [] ∧ List.map cMon (List.filterMap lnMon (List.take j.val.fst X)) = [] ∧ List.map cInt j.val.snd.fst = [] ∧
  List.map cInt j.val.snd.snd.fst = [] ∧ List.map cInt j.val.snd.snd.snd = [] ∧ True) ∧ ∀ (i :
  { x : Nat × List Int × List Int × List Int // x.fst ≤ X.length ∧ x.snd.fst.length ≤ x.fst ∧ x.snd.snd.fst.length ≤ x.fst ∧ x.snd.snd.snd.length ≤ x.fst }), (decide ((↑i.val.fst
  : Int) < (↑X.length : Int)) = true → Ob ((0 : Int) ≤ (↑i.val.fst : Int) ∧ (↑i.val.fst : Int) < (↑X.length : Int)) ∧ Ob ((0 : Int) ≤ (X.getD i.val.fst ln0).part ∧ (X.getD
  i.val.fst ln0).part < (↑(4 : Nat) : Int)) ∧ (decide ((X.getD i.val.fst ln0).part = (↑(3 : Nat) : Int)) = true → Ob ((List.map cInt i.val.snd.snd.snd).length + (elsOf (1 : Nat)
  fun (i_1 : Nat) => List.take (1 : Nat) (List.drop (i_1 * (1 : Nat)) [AV.int IntKind.i64 (X.getD i.val.fst ln0).at_])).length ≤ (1048576 : Nat)) ∧ Ob ((0 : Int) ≤ (X.getD
  i.val.fst ln0).part ∧ (X.getD i.val.fst ln0).part < (↑(4 : Nat) : Int)) ∧ (decide ((X.getD i.val.fst ln0).part = (↑(3 : Nat) : Int)) = true → (decide ((X.getD i.val.fst
  ln0).part = (1 : Int)) = true → Ob ((List.map cOpd (List.filterMap lnOpd (List.take i.val.fst X))).length + (elsOf (1 : Nat) fun (i_1 : Nat) => List.take (10 : Nat) (List.drop
  (i_1 * (10 : Nat)) [AV.str (X.getD i.val.fst ln0).opd.name, AV.int IntKind.i64 (X.getD i.val.fst ln0).opd.kind, AV.int IntKind.i64 (X.getD i.val.fst ln0).opd.ty.k, AV.int
  IntKind.i64 (X.getD i.val.fst ln0).opd.ty.l, AV.int IntKind.i64 (X.getD i.val.fst ln0).opd.ty.s, AV.int IntKind.i64 (X.getD i.val.fst ln0).opd.n, AV.str (X.getD i.val.fst
  ln0).opd.v, AV.str (X.getD i.val.fst ln0).opd.base, AV.int IntKind.i64 (X.getD i.val.fst ln0).opd.off, AV.int IntKind.i64 (X.getD i.val.fst ln0).opd.tgt])).length ≤ (1048576 :
  Nat)) ∧ Ob (inI64 ((↑i.val.fst : Int) + (1 : Int))) ∧ ∃ (j :
  { x : Nat × List Int × List Int × List Int // x.fst ≤ X.length ∧ x.snd.fst.length ≤ x.fst ∧ x.snd.snd.fst.length ≤ x.fst ∧ x.snd.snd.snd.length ≤ x.fst }), (X.length -
  j.val.fst).succ.le (X.length - i.val.fst) ∧ True ∧ True ∧ True ∧ (X.length = X.length ∧ ∀ (i : Nat), i < X.length → cLn (X.getD i ln0) = cLn (X.getD i ln0)) ∧ (↑X.length : Int)
  = (↑X.length : Int) ∧ (↑i.val.fst : Int) + (1 : Int) = (↑j.val.fst : Int) ∧ (X.length = X.length ∧ ∀ (i : Nat), i < X.length → cLn (X.getD i ln0) = cLn (X.getD i ln0)) ∧ (True
  ∧ True ∧ True) ∧ (True ∧ True ∧ True) ∧ (True ∧ True ∧ True ∧ True) ∧ (List.map cOpd (List.filterMap lnOpd (List.take i.val.fst X)) ++ elsOf (1 : Nat) fun (i_1 : Nat) =>
  List.take (10 : Nat) (List.drop (i_1 * (10 : Nat)) [AV.str (X.getD i.val.fst ln0).opd.name, AV.int IntKind.i64 (X.getD i.val.fst ln0).opd.kind, AV.int IntKind.i64 (X.getD
  i.val.fst ln0).opd.ty.k, AV.int IntKind.i64 (X.getD i.val.fst ln0).opd.ty.l, AV.int IntKind.i64 (X.getD i.val.fst ln0).opd.ty.s, AV.int IntKind.i64 (X.getD i.val.fst
  ln0).opd.n, AV.str (X.getD i.val.fst ln0).opd.v, AV.str (X.getD i.val.fst ln0).opd.base, AV.int IntKind.i64 (X.getD i.val.fst ln0).opd.off, AV.int IntKind.i64 (X.getD i.val.fst
  ln0).opd.tgt])) = List.map cOpd (List.filterMap lnOpd (List.take j.val.fst X)) ∧ List.map cMon (List.filterMap lnMon (List.take i.val.fst X)) = List.map cMon (List.filterMap
  lnMon (List.take j.val.fst X)) ∧ List.map cInt i.val.snd.fst = List.map cInt j.val.snd.fst ∧ List.map cInt i.val.snd.snd.fst = List.map cInt j.val.snd.snd.fst ∧ (List.map cInt
  i.val.snd.snd.snd ++ elsOf (1 : Nat) fun (i_1 : Nat) => List.take (1 : Nat) (List.drop (i_1 * (1 : Nat)) [AV.int IntKind.i64 (X.getD i.val.fst ln0).at_])) = List.map cInt
  j.val.snd.snd.snd ∧ True) ∧ (decide ((X.getD i.val.fst ln0).part = (1 : Int)) = false → (decide ((X.getD i.val.fst ln0).part = (3 : Int)) = true → Ob ((List.map cMon
  (List.filterMap lnMon (List.take i.val.fst X))).length + (elsOf (1 : Nat) fun (i_1 : Nat) => List.take (4 : Nat) (List.drop (i_1 * (4 : Nat)) [AV.int IntKind.i64 (X.getD
  i.val.fst ln0).mon.fr, AV.int IntKind.i64 (X.getD i.val.fst ln0).mon.to, AV.int IntKind.i64 (X.getD i.val.fst ln0).mon.ex, AV.int IntKind.i64 (X.getD i.val.fst
  ln0).mon.hd])).length ≤ (1048576 : Nat)) ∧ Ob (inI64 ((↑i.val.fst : Int) + (1 : Int))) ∧ ∃ (j :
  { x : Nat × List Int × List Int × List Int // x.fst ≤ X.length ∧ x.snd.fst.length ≤ x.fst ∧ x.snd.snd.fst.length ≤ x.fst ∧ x.snd.snd.snd.length ≤ x.fst }), (X.length -
  j.val.fst).succ.le (X.length - i.val.fst) ∧ True ∧ True ∧ True ∧ (X.length = X.length ∧ ∀ (i : Nat), i < X.length → cLn (X.getD i ln0) = cLn (X.getD i ln0)) ∧ (↑X.length : Int)
  = (↑X.length : Int) ∧ (↑i.val.fst : Int) + (1 : Int) = (↑j.val.fst : Int) ∧ (X.length = X.length ∧ ∀ (i : Nat), i < X.length → cLn (X.getD i ln0) = cLn (X.getD i ln0)) ∧ (True
  ∧ True ∧ True) ∧ (True ∧ True ∧ True) ∧ (True ∧ True ∧ True ∧ True) ∧ List.map cOpd (List.filterMap lnOpd (List.take i.val.fst X)) = List.map cOpd (List.filterMap lnOpd
  (List.take j.val.fst X)) ∧ (List.map cMon (List.filterMap lnMon (List.take i.val.fst X)) ++ elsOf (1 : Nat) fun (i_1 : Nat) => List.take (4 : Nat) (List.drop (i_1 * (4 : Nat))
  [AV.int IntKind.i64 (X.getD i.val.fst ln0).mon.fr, AV.int IntKind.i64 (X.getD i.val.fst ln0).mon.to, AV.int IntKind.i64 (X.getD i.val.fst ln0).mon.ex, AV.int IntKind.i64
  (X.getD i.val.fst ln0).mon.hd])) = List.map cMon (List.filterMap lnMon (List.take j.val.fst X)) ∧ List.map cInt i.val.snd.fst = List.map cInt j.val.snd.fst ∧ List.map cInt
  i.val.snd.snd.fst = List.map cInt j.val.snd.snd.fst ∧ (List.map cInt i.val.snd.snd.snd ++ elsOf (1 : Nat) fun (i_1 : Nat) => List.take (1 : Nat) (List.drop (i_1 * (1 : Nat))
  [AV.int IntKind.i64 (X.getD i.val.fst ln0).at_])) = List.map cInt j.val.snd.snd.snd ∧ True) ∧ (decide ((X.getD i.val.fst ln0).part = (3 : Int)) = false → Ob (inI64 ((↑i.val.fst
  : Int) + (1 : Int))) ∧ ∃ (j :
  { x : Nat × List Int × List Int × List Int // x.fst ≤ X.length ∧ x.snd.fst.length ≤ x.fst ∧ x.snd.snd.fst.length ≤ x.fst ∧ x.snd.snd.snd.length ≤ x.fst }), (X.length -
  j.val.fst).succ.le (X.length - i.val.fst) ∧ True ∧ True ∧ True ∧ (X.length = X.length ∧ ∀ (i : Nat), i < X.length → cLn (X.getD i ln0) = cLn (X.getD i ln0)) ∧ (↑X.length : Int)
  = (↑X.length : Int) ∧ (↑i.val.fst : Int) + (1 : Int) = (↑j.val.fst : Int) ∧ (X.length = X.length ∧ ∀ (i : Nat), i < X.length → cLn (X.getD i ln0) = cLn (X.getD i ln0)) ∧ (True
  ∧ True ∧ True) ∧ (True ∧ True ∧ True) ∧ (True ∧ True ∧ True ∧ True) ∧ List.map cOpd (List.filterMap lnOpd (List.take i.val.fst X)) = List.map cOpd (List.filterMap lnOpd
  (List.take j.val.fst X)) ∧ List.map cMon (List.filterMap lnMon (List.take i.val.fst X)) = List.map cMon (List.filterMap lnMon (List.take j.val.fst X)) ∧ List.map cInt
  i.val.snd.fst = List.map cInt j.val.snd.fst ∧ List.map cInt i.val.snd.snd.fst = List.map cInt j.val.snd.snd.fst ∧ (List.map cInt i.val.snd.snd.snd ++ elsOf (1 : Nat) fun (i_1 :
  Nat) => List.take (1 : Nat) (List.drop (i_1 * (1 : Nat)) [AV.int IntKind.i64 (X.getD i.val.fst ln0).at_])) = List.map cInt j.val.snd.snd.snd ∧ True))) ∧ (decide ((X.getD
  i.val.fst ln0).part = (↑(3 : Nat) : Int)) = false → (decide ((X.getD i.val.fst ln0).part = (↑(2 : Nat) : Int)) = true → (decide ((X.getD i.val.fst ln0).part = (1 : Int)) = true
  → Ob ((List.map cOpd (List.filterMap lnOpd (List.take i.val.fst X))).length + (elsOf (1 : Nat) fun (i_1 : Nat) => List.take (10 : Nat) (List.drop (i_1 * (10 : Nat)) [AV.str
  (X.getD i.val.fst ln0).opd.name, AV.int IntKind.i64 (X.getD i.val.fst ln0).opd.kind, AV.int IntKind.i64 (X.getD i.val.fst ln0).opd.ty.k, AV.int IntKind.i64 (X.getD i.val.fst
  ln0).opd.ty.l, AV.int IntKind.i64 (X.getD i.val.fst ln0).opd.ty.s, AV.int IntKind.i64 (X.getD i.val.fst ln0).opd.n, AV.str (X.getD i.val.fst ln0).opd.v, AV.str (X.getD
  i.val.fst ln0).opd.base, AV.int IntKind.i64 (X.getD i.val.fst ln0).opd.off, AV.int IntKind.i64 (X.getD i.val.fst ln0).opd.tgt])).length ≤ (1048576 : Nat)) ∧ Ob (inI64
  ((↑i.val.fst : Int) + (1 : Int))) ∧ ∃ (j :
  { x : Nat × List Int × List Int × List Int // x.fst ≤ X.length ∧ x.snd.fst.length ≤ x.fst ∧ x.snd.snd.fst.length ≤ x.fst ∧ x.snd.snd.snd.length ≤ x.fst }), (X.length -
  j.val.fst).succ.le (X.length - i.val.fst) ∧ True ∧ True ∧ True ∧ (X.length = X.length ∧ ∀ (i : Nat), i < X.length → cLn (X.getD i ln0) = cLn (X.getD i ln0)) ∧ (↑X.length : Int)
  = (↑X.length : Int) ∧ (↑i.val.fst : Int) + (1 : Int) = (↑j.val.fst : Int) ∧ (X.length = X.length ∧ ∀ (i : Nat), i < X.length → cLn (X.getD i ln0) = cLn (X.getD i ln0)) ∧ (True
  ∧ True ∧ True) ∧ (True ∧ True ∧ True) ∧ (True ∧ True ∧ True ∧ True) ∧ (List.map cOpd (List.filterMap lnOpd (List.take i.val.fst X)) ++ elsOf (1 : Nat) fun (i_1 : Nat) =>
  List.take (10 : Nat) (List.drop (i_1 * (10 : Nat)) [AV.str (X.getD i.val.fst ln0).opd.name, AV.int IntKind.i64 (X.getD i.val.fst ln0).opd.kind, AV.int IntKind.i64 (X.getD
  i.val.fst ln0).opd.ty.k, AV.int IntKind.i64 (X.getD i.val.fst ln0).opd.ty.l, AV.int IntKind.i64 (X.getD i.val.fst ln0).opd.ty.s, AV.int IntKind.i64 (X.getD i.val.fst
  ln0).opd.n, AV.str (X.getD i.val.fst ln0).opd.v, AV.str (X.getD i.val.fst ln0).opd.base, AV.int IntKind.i64 (X.getD i.val.fst ln0).opd.off, AV.int IntKind.i64 (X.getD i.val.fst
  ln0).opd.tgt])) = List.map cOpd (List.filterMap lnOpd (List.take j.val.fst X)) ∧ List.map cMon (List.filterMap lnMon (List.take i.val.fst X)) = List.map cMon (List.filterMap
  lnMon (List.take j.val.fst X)) ∧ List.map cInt i.val.snd.fst = List.map cInt j.val.snd.fst ∧ (List.map cInt i.val.snd.snd.snd ++ elsOf (1 : Nat) fun (i_1 : Nat) => List.take (1
  : Nat) (List.drop (i_1 * (1 : Nat)) [AV.int IntKind.i64 (X.getD i.val.fst ln0).at_])) = List.map cInt j.val.snd.snd.fst ∧ False ∧ True) ∧ (decide ((X.getD i.val.fst ln0).part =
  (1 : Int)) = false → (decide ((X.getD i.val.fst ln0).part = (3 : Int)) = true → Ob ((List.map cMon (List.filterMap lnMon (List.take i.val.fst X))).length + (elsOf (1 : Nat) fun
  (i_1 : Nat) => List.take (4 : Nat) (List.drop (i_1 * (4 : Nat)) [AV.int IntKind.i64 (X.getD i.val.fst ln0).mon.fr, AV.int IntKind.i64 (X.getD i.val.fst ln0).mon.to, AV.int
  IntKind.i64 (X.getD i.val.fst ln0).mon.ex, AV.int IntKind.i64 (X.getD i.val.fst ln0).mon.hd])).length ≤ (1048576 : Nat)) ∧ Ob (inI64 ((↑i.val.fst : Int) + (1 : Int))) ∧ ∃ (j :
  { x : Nat × List Int × List Int × List Int // x.fst ≤ X.length ∧ x.snd.fst.length ≤ x.fst ∧ x.snd.snd.fst.length ≤ x.fst ∧ x.snd.snd.snd.length ≤ x.fst }), (X.length -
  j.val.fst).succ.le (X.length - i.val.fst) ∧ True ∧ True ∧ True ∧ (X.length = X.length ∧ ∀ (i : Nat), i < X.length → cLn (X.getD i ln0) = cLn (X.getD i ln0)) ∧ (↑X.length : Int)
  = (↑X.length : Int) ∧ (↑i.val.fst : Int) + (1 : Int) = (↑j.val.fst : Int) ∧ (X.length = X.length ∧ ∀ (i : Nat), i < X.length → cLn (X.getD i ln0) = cLn (X.getD i ln0)) ∧ (True
  ∧ True ∧ True) ∧ (True ∧ True ∧ True) ∧ (True ∧ True ∧ True ∧ True) ∧ List.map cOpd (List.filterMap lnOpd (List.take i.val.fst X)) = List.map cOpd (List.filterMap lnOpd
  (List.take j.val.fst X)) ∧ (List.map cMon (List.filterMap lnMon (List.take i.val.fst X)) ++ elsOf (1 : Nat) fun (i_1 : Nat) => List.take (4 : Nat) (List.drop (i_1 * (4 : Nat))
  [AV.int IntKind.i64 (X.getD i.val.fst ln0).mon.fr, AV.int IntKind.i64 (X.getD i.val.fst ln0).mon.to, AV.int IntKind.i64 (X.getD i.val.fst ln0).mon.ex, AV.int IntKind.i64
  (X.getD i.val.fst ln0).mon.hd])) = List.map cMon (List.filterMap lnMon (List.take j.val.fst X)) ∧ List.map cInt i.val.snd.fst = List.map cInt j.val.snd.fst ∧ (List.map cInt
  i.val.snd.snd.snd ++ elsOf (1 : Nat) fun (i_1 : Nat) => List.take (1 : Nat) (List.drop (i_1 * (1 : Nat)) [AV.int IntKind.i64 (X.getD i.val.fst ln0).at_])) = List.map cInt
  j.val.snd.snd.fst ∧ False ∧ True) ∧ (decide ((X.getD i.val.fst ln0).part = (3 : Int)) = false → Ob (inI64 ((↑i.val.fst : Int) + (1 : Int))) ∧ ∃ (j :
  { x : Nat × List Int × List Int × List Int // x.fst ≤ X.length ∧ x.snd.fst.length ≤ x.fst ∧ x.snd.snd.fst.length ≤ x.fst ∧ x.snd.snd.snd.length ≤ x.fst }), (X.length -
  j.val.fst).succ.le (X.length - i.val.fst) ∧ True ∧ True ∧ True ∧ (X.length = X.length ∧ ∀ (i : Nat), i < X.length → cLn (X.getD i ln0) = cLn (X.getD i ln0)) ∧ (↑X.length : Int)
  = (↑X.length : Int) ∧ (↑i.val.fst : Int) + (1 : Int) = (↑j.val.fst : Int) ∧ (X.length = X.length ∧ ∀ (i : Nat), i < X.length → cLn (X.getD i ln0) = cLn (X.getD i ln0)) ∧ (True
  ∧ True ∧ True) ∧ (True ∧ True ∧ True) ∧ (True ∧ True ∧ True ∧ True) ∧ List.map cOpd (List.filterMap lnOpd (List.take i.val.fst X)) = List.map cOpd (List.filterMap lnOpd
  (List.take j.val.fst X)) ∧ List.map cMon (List.filterMap lnMon (List.take i.val.fst X)) = List.map cMon (List.filterMap lnMon (List.take j.val.fst X)) ∧ List.map cInt
  i.val.snd.fst = List.map cInt j.val.snd.fst ∧ (List.map cInt i.val.snd.snd.snd ++ elsOf (1 : Nat) fun (i_1 : Nat) => List.take (1 : Nat) (List.drop (i_1 * (1 : Nat)) [AV.int
  IntKind.i64 (X.getD i.val.fst ln0).at_])) = List.map cInt j.val.snd.snd.fst ∧ False ∧ True))) ∧ (decide ((X.getD i.val.fst ln0).part = (↑(2 : Nat) : Int)) = false → (decide
  ((X.getD i.val.fst ln0).part = (↑(1 : Nat) : Int)) = true → (decide ((X.getD i.val.fst ln0).part = (1 : Int)) = true → Ob ((List.map cOpd (List.filterMap lnOpd (List.take
  i.val.fst X))).length + (elsOf (1 : Nat) fun (i_1 : Nat) => List.take (10 : Nat) (List.drop (i_1 * (10 : Nat)) [AV.str (X.getD i.val.fst ln0).opd.name, AV.int IntKind.i64
  (X.getD i.val.fst ln0).opd.kind, AV.int IntKind.i64 (X.getD i.val.fst ln0).opd.ty.k, AV.int IntKind.i64 (X.getD i.val.fst ln0).opd.ty.l, AV.int IntKind.i64 (X.getD i.val.fst
  ln0).opd.ty.s, AV.int IntKind.i64 (X.getD i.val.fst ln0).opd.n, AV.str (X.getD i.val.fst ln0).opd.v, AV.str (X.getD i.val.fst ln0).opd.base, AV.int IntKind.i64 (X.getD
  i.val.fst ln0).opd.off, AV.int IntKind.i64 (X.getD i.val.fst ln0).opd.tgt])).length ≤ (1048576 : Nat)) ∧ Ob (inI64 ((↑i.val.fst : Int) + (1 : Int))) ∧ ∃ (j :
  { x : Nat × List Int × List Int × List Int // x.fst ≤ X.length ∧ x.snd.fst.length ≤ x.fst ∧ x.snd.snd.fst.length ≤ x.fst ∧ x.snd.snd.snd.length ≤ x.fst }), (X.length -
  j.val.fst).succ.le (X.length - i.val.fst) ∧ True ∧ True ∧ True ∧ (X.length = X.length ∧ ∀ (i : Nat), i < X.length → cLn (X.getD i ln0) = cLn (X.getD i ln0)) ∧ (↑X.length : Int)
  = (↑X.length : Int) ∧ (↑i.val.fst : Int) + (1 : Int) = (↑j.val.fst : Int) ∧ (X.length = X.length ∧ ∀ (i : Nat), i < X.length → cLn (X.getD i ln0) = cLn (X.getD i ln0)) ∧ (True
  ∧ True ∧ True) ∧ (True ∧ True ∧ True) ∧ (True ∧ True ∧ True ∧ True) ∧ (List.map cOpd (List.filterMap lnOpd (List.take i.val.fst X)) ++ elsOf (1 : Nat) fun (i_1 : Nat) =>
  List.take (10 : Nat) (List.drop (i_1 * (10 : Nat)) [AV.str (X.getD i.val.fst ln0).opd.name, AV.int IntKind.i64 (X.getD i.val.fst ln0).opd.kind, AV.int IntKind.i64 (X.getD
  i.val.fst ln0).opd.ty.k, AV.int IntKind.i64 (X.getD i.val.fst ln0).opd.ty.l, AV.int IntKind.i64 (X.getD i.val.fst ln0).opd.ty.s, AV.int IntKind.i64 (X.getD i.val.fst
  ln0).opd.n, AV.str (X.getD i.val.fst ln0).opd.v, AV.str (X.getD i.val.fst ln0).opd.base, AV.int IntKind.i64 (X.getD i.val.fst ln0).opd.off, AV.int IntKind.i64 (X.getD i.val.fst
  ln0).opd.tgt])) = List.map cOpd (List.filterMap lnOpd (List.take j.val.fst X)) ∧ List.map cMon (List.filterMap lnMon (List.take i.val.fst X)) = List.map cMon (List.filterMap
  lnMon (List.take j.val.fst X)) ∧ (List.map cInt i.val.snd.snd.snd ++ elsOf (1 : Nat) fun (i_1 : Nat) => List.take (1 : Nat) (List.drop (i_1 * (1 : Nat)) [AV.int IntKind.i64
  (X.getD i.val.fst ln0).at_])) = List.map cInt j.val.snd.fst ∧ List.map cInt i.val.snd.snd.fst = List.map cInt j.val.snd.snd.fst ∧ False ∧ True) ∧ (decide ((X.getD i.val.fst
  ln0).part = (1 : Int)) = false → (decide ((X.getD i.val.fst ln0).part = (3 : Int)) = true → Ob ((List.map cMon (List.filterMap lnMon (List.take i.val.fst X))).length + (elsOf
  (1 : Nat) fun (i_1 : Nat) => List.take (4 : Nat) (List.drop (i_1 * (4 : Nat)) [AV.int IntKind.i64 (X.getD i.val.fst ln0).mon.fr, AV.int IntKind.i64 (X.getD i.val.fst
  ln0).mon.to, AV.int IntKind.i64 (X.getD i.val.fst ln0).mon.ex, AV.int IntKind.i64 (X.getD i.val.fst ln0).mon.hd])).length ≤ (1048576 : Nat)) ∧ Ob (inI64 ((↑i.val.fst : Int) +
  (1 : Int))) ∧ ∃ (j : { x : Nat × List Int × List Int × List Int // x.fst ≤ X.length ∧ x.snd.fst.length ≤ x.fst ∧ x.snd.snd.fst.length ≤ x.fst ∧ x.snd.snd.snd.length ≤ x.fst }),
  (X.length - j.val.fst).succ.le (X.length - i.val.fst) ∧ True ∧ True ∧ True ∧ (X.length = X.length ∧ ∀ (i : Nat), i < X.length → cLn (X.getD i ln0) = cLn (X.getD i ln0)) ∧
  (↑X.length : Int) = (↑X.length : Int) ∧ (↑i.val.fst : Int) + (1 : Int) = (↑j.val.fst : Int) ∧ (X.length = X.length ∧ ∀ (i : Nat), i < X.length → cLn (X.getD i ln0) = cLn
  (X.getD i ln0)) ∧ (True ∧ True ∧ True) ∧ (True ∧ True ∧ True) ∧ (True ∧ True ∧ True ∧ True) ∧ List.map cOpd (List.filterMap lnOpd (List.take i.val.fst X)) = List.map cOpd
  (List.filterMap lnOpd (List.take j.val.fst X)) ∧ (List.map cMon (List.filterMap lnMon (List.take i.val.fst X)) ++ elsOf (1 : Nat) fun (i_1 : Nat) => List.take (4 : Nat)
  (List.drop (i_1 * (4 : Nat)) [AV.int IntKind.i64 (X.getD i.val.fst ln0).mon.fr, AV.int IntKind.i64 (X.getD i.val.fst ln0).mon.to, AV.int IntKind.i64 (X.getD i.val.fst
  ln0).mon.ex, AV.int IntKind.i64 (X.getD i.val.fst ln0).mon.hd])) = List.map cMon (List.filterMap lnMon (List.take j.val.fst X)) ∧ (List.map cInt i.val.snd.snd.snd ++ elsOf (1 :
  Nat) fun (i_1 : Nat) => List.take (1 : Nat) (List.drop (i_1 * (1 : Nat)) [AV.int IntKind.i64 (X.getD i.val.fst ln0).at_])) = List.map cInt j.val.snd.fst ∧ List.map cInt
  i.val.snd.snd.fst = List.map cInt j.val.snd.snd.fst ∧ False ∧ True) ∧ (decide ((X.getD i.val.fst ln0).part = (3 : Int)) = false → Ob (inI64 ((↑i.val.fst : Int) + (1 : Int))) ∧
  ∃ (j : { x : Nat × List Int × List Int × List Int // x.fst ≤ X.length ∧ x.snd.fst.length ≤ x.fst ∧ x.snd.snd.fst.length ≤ x.fst ∧ x.snd.snd.snd.length ≤ x.fst }), (X.length -
  j.val.fst).succ.le (X.length - i.val.fst) ∧ True ∧ True ∧ True ∧ (X.length = X.length ∧ ∀ (i : Nat), i < X.length → cLn (X.getD i ln0) = cLn (X.getD i ln0)) ∧ (↑X.length : Int)
  = (↑X.length : Int) ∧ (↑i.val.fst : Int) + (1 : Int) = (↑j.val.fst : Int) ∧ (X.length = X.length ∧ ∀ (i : Nat), i < X.length → cLn (X.getD i ln0) = cLn (X.getD i ln0)) ∧ (True
  ∧ True ∧ True) ∧ (True ∧ True ∧ True) ∧ (True ∧ True ∧ True ∧ True) ∧ List.map cOpd (List.filterMap lnOpd (List.take i.val.fst X)) = List.map cOpd (List.filterMap lnOpd
  (List.take j.val.fst X)) ∧ List.map cMon (List.filterMap lnMon (List.take i.val.fst X)) = List.map cMon (List.filterMap lnMon (List.take j.val.fst X)) ∧ (List.map cInt
  i.val.snd.snd.snd ++ elsOf (1 : Nat) fun (i_1 : Nat) => List.take (1 : Nat) (List.drop (i_1 * (1 : Nat)) [AV.int IntKind.i64 (X.getD i.val.fst ln0).at_])) = List.map cInt
  j.val.snd.fst ∧ List.map cInt i.val.snd.snd.fst = List.map cInt j.val.snd.snd.fst ∧ False ∧ True))) ∧ (decide ((X.getD i.val.fst ln0).part = (↑(1 : Nat) : Int)) = false →
  (decide ((X.getD i.val.fst ln0).part = (↑(0 : Nat) : Int)) = true → (decide ((X.getD i.val.fst ln0).part = (1 : Int)) = true → Ob ((List.map cOpd (List.filterMap lnOpd
  (List.take i.val.fst X))).length + (elsOf (1 : Nat) fun (i_1 : Nat) => List.take (10 : Nat) (List.drop (i_1 * (10 : Nat)) [AV.str (X.getD i.val.fst ln0).opd.name, AV.int
  IntKind.i64 (X.getD i.val.fst ln0).opd.kind, AV.int IntKind.i64 (X.getD i.val.fst ln0).opd.ty.k, AV.int IntKind.i64 (X.getD i.val.fst ln0).opd.ty.l, AV.int IntKind.i64 (X.getD
  i.val.fst ln0).opd.ty.s, AV.int IntKind.i64 (X.getD i.val.fst ln0).opd.n, AV.str (X.getD i.val.fst ln0).opd.v, AV.str (X.getD i.val.fst ln0).opd.base, AV.int IntKind.i64
  (X.getD i.val.fst ln0).opd.off, AV.int IntKind.i64 (X.getD i.val.fst ln0).opd.tgt])).length ≤ (1048576 : Nat)) ∧ Ob (inI64 ((↑i.val.fst : Int) + (1 : Int))) ∧ ∃ (j :
  { x : Nat × List Int × List Int × List Int // x.fst ≤ X.length ∧ x.snd.fst.length ≤ x.fst ∧ x.snd.snd.fst.length ≤ x.fst ∧ x.snd.snd.snd.length ≤ x.fst }), (X.length -
  j.val.fst).succ.le (X.length - i.val.fst) ∧ True ∧ True ∧ True ∧ (X.length = X.length ∧ ∀ (i : Nat), i < X.length → cLn (X.getD i ln0) = cLn (X.getD i ln0)) ∧ (↑X.length : Int)
  = (↑X.length : Int) ∧ (↑i.val.fst : Int) + (1 : Int) = (↑j.val.fst : Int) ∧ (X.length = X.length ∧ ∀ (i : Nat), i < X.length → cLn (X.getD i ln0) = cLn (X.getD i ln0)) ∧ (True
  ∧ True ∧ True) ∧ (True ∧ True ∧ True) ∧ (True ∧ True ∧ True ∧ True) ∧ (List.map cOpd (List.filterMap lnOpd (List.take i.val.fst X)) ++ elsOf (1 : Nat) fun (i_1 : Nat) =>
  List.take (10 : Nat) (List.drop (i_1 * (10 : Nat)) [AV.str (X.getD i.val.fst ln0).opd.name, AV.int IntKind.i64 (X.getD i.val.fst ln0).opd.kind, AV.int IntKind.i64 (X.getD
  i.val.fst ln0).opd.ty.k, AV.int IntKind.i64 (X.getD i.val.fst ln0).opd.ty.l, AV.int IntKind.i64 (X.getD i.val.fst ln0).opd.ty.s, AV.int IntKind.i64 (X.getD i.val.fst
  ln0).opd.n, AV.str (X.getD i.val.fst ln0).opd.v, AV.str (X.getD i.val.fst ln0).opd.base, AV.int IntKind.i64 (X.getD i.val.fst ln0).opd.off, AV.int IntKind.i64 (X.getD i.val.fst
  ln0).opd.tgt])) = List.map cOpd (List.filterMap lnOpd (List.take j.val.fst X)) ∧ List.map cMon (List.filterMap lnMon (List.take i.val.fst X)) = List.map cMon (List.filterMap
  lnMon (List.take j.val.fst X)) ∧ List.map cInt i.val.snd.fst = List.map cInt j.val.snd.fst ∧ List.map cInt i.val.snd.snd.fst = List.map cInt j.val.snd.snd.fst ∧ False ∧ True) ∧
  (decide ((X.getD i.val.fst ln0).part = (1 : Int)) = false → (decide ((X.getD i.val.fst ln0).part = (3 : Int)) = true → Ob ((List.map cMon (List.filterMap lnMon (List.take
  i.val.fst X))).length + (elsOf (1 : Nat) fun (i_1 : Nat) => List.take (4 : Nat) (List.drop (i_1 * (4 : Nat)) [AV.int IntKind.i64 (X.getD i.val.fst ln0).mon.fr, AV.int
  IntKind.i64 (X.getD i.val.fst ln0).mon.to, AV.int IntKind.i64 (X.getD i.val.fst ln0).mon.ex, AV.int IntKind.i64 (X.getD i.val.fst ln0).mon.hd])).length ≤ (1048576 : Nat)) ∧ Ob
  (inI64 ((↑i.val.fst : Int) + (1 : Int))) ∧ ∃ (j :
  { x : Nat × List Int × List Int × List Int // x.fst ≤ X.length ∧ x.snd.fst.length ≤ x.fst ∧ x.snd.snd.fst.length ≤ x.fst ∧ x.snd.snd.snd.length ≤ x.fst }), (X.length -
  j.val.fst).succ.le (X.length - i.val.fst) ∧ True ∧ True ∧ True ∧ (X.length = X.length ∧ ∀ (i : Nat), i < X.length → cLn (X.getD i ln0) = cLn (X.getD i ln0)) ∧ (↑X.length : Int)
  = (↑X.length : Int) ∧ (↑i.val.fst : Int) + (1 : Int) = (↑j.val.fst : Int) ∧ (X.length = X.length ∧ ∀ (i : Nat), i < X.length → cLn (X.getD i ln0) = cLn (X.getD i ln0)) ∧ (True
  ∧ True ∧ True) ∧ (True ∧ True ∧ True) ∧ (True ∧ True ∧ True ∧ True) ∧ List.map cOpd (List.filterMap lnOpd (List.take i.val.fst X)) = List.map cOpd (List.filterMap lnOpd
  (List.take j.val.fst X)) ∧ (List.map cMon (List.filterMap lnMon (List.take i.val.fst X)) ++ elsOf (1 : Nat) fun (i_1 : Nat) => List.take (4 : Nat) (List.drop (i_1 * (4 : Nat))
  [AV.int IntKind.i64 (X.getD i.val.fst ln0).mon.fr, AV.int IntKind.i64 (X.getD i.val.fst ln0).mon.to, AV.int IntKind.i64 (X.getD i.val.fst ln0).mon.ex, AV.int IntKind.i64
  (X.getD i.val.fst ln0).mon.hd])) = List.map cMon (List.filterMap lnMon (List.take j.val.fst X)) ∧ List.map cInt i.val.snd.fst = List.map cInt j.val.snd.fst ∧ List.map cInt
  i.val.snd.snd.fst = List.map cInt j.val.snd.snd.fst ∧ False ∧ True) ∧ (decide ((X.getD i.val.fst ln0).part = (3 : Int)) = false → Ob (inI64 ((↑i.val.fst : Int) + (1 : Int))) ∧
  ∃ (j : { x : Nat × List Int × List Int × List Int // x.fst ≤ X.length ∧ x.snd.fst.length ≤ x.fst ∧ x.snd.snd.fst.length ≤ x.fst ∧ x.snd.snd.snd.length ≤ x.fst }), (X.length -
  j.val.fst).succ.le (X.length - i.val.fst) ∧ True ∧ True ∧ True ∧ (X.length = X.length ∧ ∀ (i : Nat), i < X.length → cLn (X.getD i ln0) = cLn (X.getD i ln0)) ∧ (↑X.length : Int)
  = (↑X.length : Int) ∧ (↑i.val.fst : Int) + (1 : Int) = (↑j.val.fst : Int) ∧ (X.length = X.length ∧ ∀ (i : Nat), i < X.length → cLn (X.getD i ln0) = cLn (X.getD i ln0)) ∧ (True
  ∧ True ∧ True) ∧ (True ∧ True ∧ True) ∧ (True ∧ True ∧ True ∧ True) ∧ List.map cOpd (List.filterMap lnOpd (List.take i.val.fst X)) = List.map cOpd (List.filterMap lnOpd
  (List.take j.val.fst X)) ∧ List.map cMon (List.filterMap lnMon (List.take i.val.fst X)) = List.map cMon (List.filterMap lnMon (List.take j.val.fst X)) ∧ List.map cInt
  i.val.snd.fst = List.map cInt j.val.snd.fst ∧ List.map cInt i.val.snd.snd.fst = List.map cInt j.val.snd.snd.fst ∧ False ∧ True))) ∧ (decide ((X.getD i.val.fst ln0).part = (↑(0
  : Nat) : Int)) = false → False))))) ∧ (decide ((X.getD i.val.fst ln0).part = (↑(3 : Nat) : Int)) = false → (decide ((X.getD i.val.fst ln0).part = (↑(2 : Nat) : Int)) = true →
  Ob ((List.map cInt i.val.snd.snd.fst).length + (elsOf (1 : Nat) fun (i_1 : Nat) => List.take (1 : Nat) (List.drop (i_1 * (1 : Nat)) [AV.int IntKind.i64 (X.getD i.val.fst
  ln0).at_])).length ≤ (1048576 : Nat)) ∧ Ob ((0 : Int) ≤ (X.getD i.val.fst ln0).part ∧ (X.getD i.val.fst ln0).part < (↑(4 : Nat) : Int)) ∧ (decide ((X.getD i.val.fst ln0).part =
  (↑(3 : Nat) : Int)) = true → (decide ((X.getD i.val.fst ln0).part = (1 : Int)) = true → Ob ((List.map cOpd (List.filterMap lnOpd (List.take i.val.fst X))).length + (elsOf (1 :
  Nat) fun (i_1 : Nat) => List.take (10 : Nat) (List.drop (i_1 * (10 : Nat)) [AV.str (X.getD i.val.fst ln0).opd.name, AV.int IntKind.i64 (X.getD i.val.fst ln0).opd.kind, AV.int
  IntKind.i64 (X.getD i.val.fst ln0).opd.ty.k, AV.int IntKind.i64 (X.getD i.val.fst ln0).opd.ty.l, AV.int IntKind.i64 (X.getD i.val.fst ln0).opd.ty.s, AV.int IntKind.i64 (X.getD
  i.val.fst ln0).opd.n, AV.str (X.getD i.val.fst ln0).opd.v, AV.str (X.getD i.val.fst ln0).opd.base, AV.int IntKind.i64 (X.getD i.val.fst ln0).opd.off, AV.int IntKind.i64 (X.getD
  i.val.fst ln0).opd.tgt])).length ≤ (1048576 : Nat)) ∧ Ob (inI64 ((↑i.val.fst : Int) + (1 : Int))) ∧ ∃ (j :
  { x : Nat × List Int × List Int × List Int // x.fst ≤ X.length ∧ x.snd.fst.length ≤ x.fst ∧ x.snd.snd.fst.length ≤ x.fst ∧ x.snd.snd.snd.length ≤ x.fst }), (X.length -
  j.val.fst).succ.le (X.length - i.val.fst) ∧ True ∧ True ∧ True ∧ (X.length = X.length ∧ ∀ (i : Nat), i < X.length → cLn (X.getD i ln0) = cLn (X.getD i ln0)) ∧ (↑X.length : Int)
  = (↑X.length : Int) ∧ (↑i.val.fst : Int) + (1 : Int) = (↑j.val.fst : Int) ∧ (X.length = X.length ∧ ∀ (i : Nat), i < X.length → cLn (X.getD i ln0) = cLn (X.getD i ln0)) ∧ (True
  ∧ True ∧ True) ∧ (True ∧ True ∧ True) ∧ (True ∧ True ∧ True ∧ True) ∧ (List.map cOpd (List.filterMap lnOpd (List.take i.val.fst X)) ++ elsOf (1 : Nat) fun (i_1 : Nat) =>
  List.take (10 : Nat) (List.drop (i_1 * (10 : Nat)) [AV.str (X.getD i.val.fst ln0).opd.name, AV.int IntKind.i64 (X.getD i.val.fst ln0).opd.kind, AV.int IntKind.i64 (X.getD
  i.val.fst ln0).opd.ty.k, AV.int IntKind.i64 (X.getD i.val.fst ln0).opd.ty.l, AV.int IntKind.i64 (X.getD i.val.fst ln0).opd.ty.s, AV.int IntKind.i64 (X.getD i.val.fst
  ln0).opd.n, AV.str (X.getD i.val.fst ln0).opd.v, AV.str (X.getD i.val.fst ln0).opd.base, AV.int IntKind.i64 (X.getD i.val.fst ln0).opd.off, AV.int IntKind.i64 (X.getD i.val.fst
  ln0).opd.tgt])) = List.map cOpd (List.filterMap lnOpd (List.take j.val.fst X)) ∧ List.map cMon (List.filterMap lnMon (List.take i.val.fst X)) = List.map cMon (List.filterMap
  lnMon (List.take j.val.fst X)) ∧ List.map cInt i.val.snd.fst = List.map cInt j.val.snd.fst ∧ False ∧ (List.map cInt i.val.snd.snd.fst ++ elsOf (1 : Nat) fun (i_1 : Nat) =>
  List.take (1 : Nat) (List.drop (i_1 * (1 : Nat)) [AV.int IntKind.i64 (X.getD i.val.fst ln0).at_])) = List.map cInt j.val.snd.snd.snd ∧ True) ∧ (decide ((X.getD i.val.fst
  ln0).part = (1 : Int)) = false → (decide ((X.getD i.val.fst ln0).part = (3 : Int)) = true → Ob ((List.map cMon (List.filterMap lnMon (List.take i.val.fst X))).length + (elsOf
  (1 : Nat) fun (i_1 : Nat) => List.take (4 : Nat) (List.drop (i_1 * (4 : Nat)) [AV.int IntKind.i64 (X.getD i.val.fst ln0).mon.fr, AV.int IntKind.i64 (X.getD i.val.fst
  ln0).mon.to, AV.int IntKind.i64 (X.getD i.val.fst ln0).mon.ex, AV.int IntKind.i64 (X.getD i.val.fst ln0).mon.hd])).length ≤ (1048576 : Nat)) ∧ Ob (inI64 ((↑i.val.fst : Int) +
  (1 : Int))) ∧ ∃ (j : { x : Nat × List Int × List Int × List Int // x.fst ≤ X.length ∧ x.snd.fst.length ≤ x.fst ∧ x.snd.snd.fst.length ≤ x.fst ∧ x.snd.snd.snd.length ≤ x.fst }),
  (X.length - j.val.fst).succ.le (X.length - i.val.fst) ∧ True ∧ True ∧ True ∧ (X.length = X.length ∧ ∀ (i : Nat), i < X.length → cLn (X.getD i ln0) = cLn (X.getD i ln0)) ∧
  (↑X.length : Int) = (↑X.length : Int) ∧ (↑i.val.fst : Int) + (1 : Int) = (↑j.val.fst : Int) ∧ (X.length = X.length ∧ ∀ (i : Nat), i < X.length → cLn (X.getD i ln0) = cLn
  (X.getD i ln0)) ∧ (True ∧ True ∧ True) ∧ (True ∧ True ∧ True) ∧ (True ∧ True ∧ True ∧ True) ∧ List.map cOpd (List.filterMap lnOpd (List.take i.val.fst X)) = List.map cOpd
  (List.filterMap lnOpd (List.take j.val.fst X)) ∧ (List.map cMon (List.filterMap lnMon (List.take i.val.fst X)) ++ elsOf (1 : Nat) fun (i_1 : Nat) => List.take (4 : Nat)
  (List.drop (i_1 * (4 : Nat)) [AV.int IntKind.i64 (X.getD i.val.fst ln0).mon.fr, AV.int IntKind.i64 (X.getD i.val.fst ln0).mon.to, AV.int IntKind.i64 (X.getD i.val.fst
  ln0).mon.ex, AV.int IntKind.i64 (X.getD i.val.fst ln0).mon.hd])) = List.map cMon (List.filterMap lnMon (List.take j.val.fst X)) ∧ List.map cInt i.val.snd.fst = List.map cInt
  j.val.snd.fst ∧ False ∧ (List.map cInt i.val.snd.snd.fst ++ elsOf (1 : Nat) fun (i_1 : Nat) => List.take (1 : Nat) (List.drop (i_1 * (1 : Nat)) [AV.int IntKind.i64 (X.getD
  i.val.fst ln0).at_])) = List.map cInt j.val.snd.snd.snd ∧ True) ∧ (decide ((X.getD i.val.fst ln0).part = (3 : Int)) = false → Ob (inI64 ((↑i.val.fst : Int) + (1 : Int))) ∧ ∃ (j
  : { x : Nat × List Int × List Int × List Int // x.fst ≤ X.length ∧ x.snd.fst.length ≤ x.fst ∧ x.snd.snd.fst.length ≤ x.fst ∧ x.snd.snd.snd.length ≤ x.fst }), (X.length -
  j.val.fst).succ.le (X.length - i.val.fst) ∧ True ∧ True ∧ True ∧ (X.length = X.length ∧ ∀ (i : Nat), i < X.length → cLn (X.getD i ln0) = cLn (X.getD i ln0)) ∧ (↑X.length : Int)
  = (↑X.length : Int) ∧ (↑i.val.fst : Int) + (1 : Int) = (↑j.val.fst : Int) ∧ (X.length = X.length ∧ ∀ (i : Nat), i < X.length → cLn (X.getD i ln0) = cLn (X.getD i ln0)) ∧ (True
  ∧ True ∧ True) ∧ (True ∧ True ∧ True) ∧ (True ∧ True ∧ True ∧ True) ∧ List.map cOpd (List.filterMap lnOpd (List.take i.val.fst X)) = List.map cOpd (List.filterMap lnOpd
  (List.take j.val.fst X)) ∧ List.map cMon (List.filterMap lnMon (List.take i.val.fst X)) = List.map cMon (List.filterMap lnMon (List.take j.val.fst X)) ∧ List.map cInt
  i.val.snd.fst = List.map cInt j.val.snd.fst ∧ False ∧ (List.map cInt i.val.snd.snd.fst ++ elsOf (1 : Nat) fun (i_1 : Nat) => List.take (1 : Nat) (List.drop (i_1 * (1 : Nat))
  [AV.int IntKind.i64 (X.getD i.val.fst ln0).at_])) = List.map cInt j.val.snd.snd.snd ∧ True))) ∧ (decide ((X.getD i.val.fst ln0).part = (↑(3 : Nat) : Int)) = false → (decide
  ((X.getD i.val.fst ln0).part = (↑(2 : Nat) : Int)) = true → (decide ((X.getD i.val.fst ln0).part = (1 : Int)) = true → Ob ((List.map cOpd (List.filterMap lnOpd (List.take
  i.val.fst X))).length + (elsOf (1 : Nat) fun (i_1 : Nat) => List.take (10 : Nat) (List.drop (i_1 * (10 : Nat)) [AV.str (X.getD i.val.fst ln0).opd.name, AV.int IntKind.i64
  (X.getD i.val.fst ln0).opd.kind, AV.int IntKind.i64 (X.getD i.val.fst ln0).opd.ty.k, AV.int IntKind.i64 (X.getD i.val.fst ln0).opd.ty.l, AV.int IntKind.i64 (X.getD i.val.fst
  ln0).opd.ty.s, AV.int IntKind.i64 (X.getD i.val.fst ln0).opd.n, AV.str (X.getD i.val.fst ln0).opd.v, AV.str (X.getD i.val.fst ln0).opd.base, AV.int IntKind.i64 (X.getD
  i.val.fst ln0).opd.off, AV.int IntKind.i64 (X.getD i.val.fst ln0).opd.tgt])).length ≤ (1048576 : Nat)) ∧ Ob (inI64 ((↑i.val.fst : Int) + (1 : Int))) ∧ ∃ (j :
  { x : Nat × List Int × List Int × List Int // x.fst ≤ X.length ∧ x.snd.fst.length ≤ x.fst ∧ x.snd.snd.fst.length ≤ x.fst ∧ x.snd.snd.snd.length ≤ x.fst }), (X.length -
  j.val.fst).succ.le (X.length - i.val.fst) ∧ True ∧ True ∧ True ∧ (X.length = X.length ∧ ∀ (i : Nat), i < X.length → cLn (X.getD i ln0) = cLn (X.getD i ln0)) ∧ (↑X.length : Int)
  = (↑X.length : Int) ∧ (↑i.val.fst : Int) + (1 : Int) = (↑j.val.fst : Int) ∧ (X.length = X.length ∧ ∀ (i : Nat), i < X.length → cLn (X.getD i ln0) = cLn (X.getD i ln0)) ∧ (True
  ∧ True ∧ True) ∧ (True ∧ True ∧ True) ∧ (True ∧ True ∧ True ∧ True) ∧ (List.map cOpd (List.filterMap lnOpd (List.take i.val.fst X)) ++ elsOf (1 : Nat) fun (i_1 : Nat) =>
  List.take (10 : Nat) (List.drop (i_1 * (10 : Nat)) [AV.str (X.getD i.val.fst ln0).opd.name, AV.int IntKind.i64 (X.getD i.val.fst ln0).opd.kind, AV.int IntKind.i64 (X.getD
  i.val.fst ln0).opd.ty.k, AV.int IntKind.i64 (X.getD i.val.fst ln0).opd.ty.l, AV.int IntKind.i64 (X.getD i.val.fst ln0).opd.ty.s, AV.int IntKind.i64 (X.getD i.val.fst
  ln0).opd.n, AV.str (X.getD i.val.fst ln0).opd.v, AV.str (X.getD i.val.fst ln0).opd.base, AV.int IntKind.i64 (X.getD i.val.fst ln0).opd.off, AV.int IntKind.i64 (X.getD i.val.fst
  ln0).opd.tgt])) = List.map cOpd (List.filterMap lnOpd (List.take j.val.fst X)) ∧ List.map cMon (List.filterMap lnMon (List.take i.val.fst X)) = List.map cMon (List.filterMap
  lnMon (List.take j.val.fst X)) ∧ List.map cInt i.val.snd.fst = List.map cInt j.val.snd.fst ∧ (List.map cInt i.val.snd.snd.fst ++ elsOf (1 : Nat) fun (i_1 : Nat) => List.take (1
  : Nat) (List.drop (i_1 * (1 : Nat)) [AV.int IntKind.i64 (X.getD i.val.fst ln0).at_])) = List.map cInt j.val.snd.snd.fst ∧ List.map cInt i.val.snd.snd.snd = List.map cInt
  j.val.snd.snd.snd ∧ True) ∧ (decide ((X.getD i.val.fst ln0).part = (1 : Int)) = false → (decide ((X.getD i.val.fst ln0).part = (3 : Int)) = true → Ob ((List.map cMon
  (List.filterMap lnMon (List.take i.val.fst X))).length + (elsOf (1 : Nat) fun (i_1 : Nat) => List.take (4 : Nat) (List.drop (i_1 * (4 : Nat)) [AV.int IntKind.i64 (X.getD
  i.val.fst ln0).mon.fr, AV.int IntKind.i64 (X.getD i.val.fst ln0).mon.to, AV.int IntKind.i64 (X.getD i.val.fst ln0).mon.ex, AV.int IntKind.i64 (X.getD i.val.fst
  ln0).mon.hd])).length ≤ (1048576 : Nat)) ∧ Ob (inI64 ((↑i.val.fst : Int) + (1 : Int))) ∧ ∃ (j :
  { x : Nat × List Int × List Int × List Int // x.fst ≤ X.length ∧ x.snd.fst.length ≤ x.fst ∧ x.snd.snd.fst.length ≤ x.fst ∧ x.snd.snd.snd.length ≤ x.fst }), (X.length -
  j.val.fst).succ.le (X.length - i.val.fst) ∧ True ∧ True ∧ True ∧ (X.length = X.length ∧ ∀ (i : Nat), i < X.length → cLn (X.getD i ln0) = cLn (X.getD i ln0)) ∧ (↑X.length : Int)
  = (↑X.length : Int) ∧ (↑i.val.fst : Int) + (1 : Int) = (↑j.val.fst : Int) ∧ (X.length = X.length ∧ ∀ (i : Nat), i < X.length → cLn (X.getD i ln0) = cLn (X.getD i ln0)) ∧ (True
  ∧ True ∧ True) ∧ (True ∧ True ∧ True) ∧ (True ∧ True ∧ True ∧ True) ∧ List.map cOpd (List.filterMap lnOpd (List.take i.val.fst X)) = List.map cOpd (List.filterMap lnOpd
  (List.take j.val.fst X)) ∧ (List.map cMon (List.filterMap lnMon (List.take i.val.fst X)) ++ elsOf (1 : Nat) fun (i_1 : Nat) => List.take (4 : Nat) (List.drop (i_1 * (4 : Nat))
  [AV.int IntKind.i64 (X.getD i.val.fst ln0).mon.fr, AV.int IntKind.i64 (X.getD i.val.fst ln0).mon.to, AV.int IntKind.i64 (X.getD i.val.fst ln0).mon.ex, AV.int IntKind.i64
  (X.getD i.val.fst ln0).mon.hd])) = List.map cMon (List.filterMap lnMon (List.take j.val.fst X)) ∧ List.map cInt i.val.snd.fst = List.map cInt j.val.snd.fst ∧ (List.map cInt
  i.val.snd.snd.fst ++ elsOf (1 : Nat) fun (i_1 : Nat) => List.take (1 : Nat) (List.drop (i_1 * (1 : Nat)) [AV.int IntKind.i64 (X.getD i.val.fst ln0).at_])) = List.map cInt
  j.val.snd.snd.fst ∧ List.map cInt i.val.snd.snd.snd = List.map cInt j.val.snd.snd.snd ∧ True) ∧ (decide ((X.getD i.val.fst ln0).part = (3 : Int)) = false → Ob (inI64
  ((↑i.val.fst : Int) + (1 : Int))) ∧ ∃ (j :
  { x : Nat × List Int × List Int × List Int // x.fst ≤ X.length ∧ x.snd.fst.length ≤ x.fst ∧ x.snd.snd.fst.length ≤ x.fst ∧ x.snd.snd.snd.length ≤ x.fst }), (X.length -
  j.val.fst).succ.le (X.length - i.val.fst) ∧ True ∧ True ∧ True ∧ (X.length = X.length ∧ ∀ (i : Nat), i < X.length → cLn (X.getD i ln0) = cLn (X.getD i ln0)) ∧ (↑X.length : Int)
  = (↑X.length : Int) ∧ (↑i.val.fst : Int) + (1 : Int) = (↑j.val.fst : Int) ∧ (X.length = X.length ∧ ∀ (i : Nat), i < X.length → cLn (X.getD i ln0) = cLn (X.getD i ln0)) ∧ (True
  ∧ True ∧ True) ∧ (True ∧ True ∧ True) ∧ (True ∧ True ∧ True ∧ True) ∧ List.map cOpd (List.filterMap lnOpd (List.take i.val.fst X)) = List.map cOpd (List.filterMap lnOpd
  (List.take j.val.fst X)) ∧ List.map cMon (List.filterMap lnMon (List.take i.val.fst X)) = List.map cMon (List.filterMap lnMon (List.take j.val.fst X)) ∧ List.map cInt
  i.val.snd.fst = List.map cInt j.val.snd.fst ∧ (List.map cInt i.val.snd.snd.fst ++ elsOf (1 : Nat) fun (i_1 : Nat) => List.take (1 : Nat) (List.drop (i_1 * (1 : Nat)) [AV.int
  IntKind.i64 (X.getD i.val.fst ln0).at_])) = List.map cInt j.val.snd.snd.fst ∧ List.map cInt i.val.snd.snd.snd = List.map cInt j.val.snd.snd.snd ∧ True))) ∧ (decide ((X.getD
  i.val.fst ln0).part = (↑(2 : Nat) : Int)) = false → (decide ((X.getD i.val.fst ln0).part = (↑(1 : Nat) : Int)) = true → (decide ((X.getD i.val.fst ln0).part = (1 : Int)) = true
  → Ob ((List.map cOpd (List.filterMap lnOpd (List.take i.val.fst X))).length + (elsOf (1 : Nat) fun (i_1 : Nat) => List.take (10 : Nat) (List.drop (i_1 * (10 : Nat)) [AV.str
  (X.getD i.val.fst ln0).opd.name, AV.int IntKind.i64 (X.getD i.val.fst ln0).opd.kind, AV.int IntKind.i64 (X.getD i.val.fst ln0).opd.ty.k, AV.int IntKind.i64 (X.getD i.val.fst
  ln0).opd.ty.l, AV.int IntKind.i64 (X.getD i.val.fst ln0).opd.ty.s, AV.int IntKind.i64 (X.getD i.val.fst ln0).opd.n, AV.str (X.getD i.val.fst ln0).opd.v, AV.str (X.getD
  i.val.fst ln0).opd.base, AV.int IntKind.i64 (X.getD i.val.fst ln0).opd.off, AV.int IntKind.i64 (X.getD i.val.fst ln0).opd.tgt])).length ≤ (1048576 : Nat)) ∧ Ob (inI64
  ((↑i.val.fst : Int) + (1 : Int))) ∧ ∃ (j :
  { x : Nat × List Int × List Int × List Int // x.fst ≤ X.length ∧ x.snd.fst.length ≤ x.fst ∧ x.snd.snd.fst.length ≤ x.fst ∧ x.snd.snd.snd.length ≤ x.fst }), (X.length -
  j.val.fst).succ.le (X.length - i.val.fst) ∧ True ∧ True ∧ True ∧ (X.length = X.length ∧ ∀ (i : Nat), i < X.length → cLn (X.getD i ln0) = cLn (X.getD i ln0)) ∧ (↑X.length : Int)
  = (↑X.length : Int) ∧ (↑i.val.fst : Int) + (1 : Int) = (↑j.val.fst : Int) ∧ (X.length = X.length ∧ ∀ (i : Nat), i < X.length → cLn (X.getD i ln0) = cLn (X.getD i ln0)) ∧ (True
  ∧ True ∧ True) ∧ (True ∧ True ∧ True) ∧ (True ∧ True ∧ True ∧ True) ∧ (List.map cOpd (List.filterMap lnOpd (List.take i.val.fst X)) ++ elsOf (1 : Nat) fun (i_1 : Nat) =>
  List.take (10 : Nat) (List.drop (i_1 * (10 : Nat)) [AV.str (X.getD i.val.fst ln0).opd.name, AV.int IntKind.i64 (X.getD i.val.fst ln0).opd.kind, AV.int IntKind.i64 (X.getD
  i.val.fst ln0).opd.ty.k, AV.int IntKind.i64 (X.getD i.val.fst ln0).opd.ty.l, AV.int IntKind.i64 (X.getD i.val.fst ln0).opd.ty.s, AV.int IntKind.i64 (X.getD i.val.fst
  ln0).opd.n, AV.str (X.getD i.val.fst ln0).opd.v, AV.str (X.getD i.val.fst ln0).opd.base, AV.int IntKind.i64 (X.getD i.val.fst ln0).opd.off, AV.int IntKind.i64 (X.getD i.val.fst
  ln0).opd.tgt])) = List.map cOpd (List.filterMap lnOpd (List.take j.val.fst X)) ∧ List.map cMon (List.filterMap lnMon (List.take i.val.fst X)) = List.map cMon (List.filterMap
  lnMon (List.take j.val.fst X)) ∧ (List.map cInt i.val.snd.snd.fst ++ elsOf (1 : Nat) fun (i_1 : Nat) => List.take (1 : Nat) (List.drop (i_1 * (1 : Nat)) [AV.int IntKind.i64
  (X.getD i.val.fst ln0).at_])) = List.map cInt j.val.snd.fst ∧ False ∧ List.map cInt i.val.snd.snd.snd = List.map cInt j.val.snd.snd.snd ∧ True) ∧ (decide ((X.getD i.val.fst
  ln0).part = (1 : Int)) = false → (decide ((X.getD i.val.fst ln0).part = (3 : Int)) = true → Ob ((List.map cMon (List.filterMap lnMon (List.take i.val.fst X))).length + (elsOf
  (1 : Nat) fun (i_1 : Nat) => List.take (4 : Nat) (List.drop (i_1 * (4 : Nat)) [AV.int IntKind.i64 (X.getD i.val.fst ln0).mon.fr, AV.int IntKind.i64 (X.getD i.val.fst
  ln0).mon.to, AV.int IntKind.i64 (X.getD i.val.fst ln0).mon.ex, AV.int IntKind.i64 (X.getD i.val.fst ln0).mon.hd])).length ≤ (1048576 : Nat)) ∧ Ob (inI64 ((↑i.val.fst : Int) +
  (1 : Int))) ∧ ∃ (j : { x : Nat × List Int × List Int × List Int // x.fst ≤ X.length ∧ x.snd.fst.length ≤ x.fst ∧ x.snd.snd.fst.length ≤ x.fst ∧ x.snd.snd.snd.length ≤ x.fst }),
  (X.length - j.val.fst).succ.le (X.length - i.val.fst) ∧ True ∧ True ∧ True ∧ (X.length = X.length ∧ ∀ (i : Nat), i < X.length → cLn (X.getD i ln0) = cLn (X.getD i ln0)) ∧
  (↑X.length : Int) = (↑X.length : Int) ∧ (↑i.val.fst : Int) + (1 : Int) = (↑j.val.fst : Int) ∧ (X.length = X.length ∧ ∀ (i : Nat), i < X.length → cLn (X.getD i ln0) = cLn
  (X.getD i ln0)) ∧ (True ∧ True ∧ True) ∧ (True ∧ True ∧ True) ∧ (True ∧ True ∧ True ∧ True) ∧ List.map cOpd (List.filterMap lnOpd (List.take i.val.fst X)) = List.map cOpd
  (List.filterMap lnOpd (List.take j.val.fst X)) ∧ (List.map cMon (List.filterMap lnMon (List.take i.val.fst X)) ++ elsOf (1 : Nat) fun (i_1 : Nat) => List.take (4 : Nat)
  (List.drop (i_1 * (4 : Nat)) [AV.int IntKind.i64 (X.getD i.val.fst ln0).mon.fr, AV.int IntKind.i64 (X.getD i.val.fst ln0).mon.to, AV.int IntKind.i64 (X.getD i.val.fst
  ln0).mon.ex, AV.int IntKind.i64 (X.getD i.val.fst ln0).mon.hd])) = List.map cMon (List.filterMap lnMon (List.take j.val.fst X)) ∧ (List.map cInt i.val.snd.snd.fst ++ elsOf (1 :
  Nat) fun (i_1 : Nat) => List.take (1 : Nat) (List.drop (i_1 * (1 : Nat)) [AV.int IntKind.i64 (X.getD i.val.fst ln0).at_])) = List.map cInt j.val.snd.fst ∧ False ∧ List.map cInt
  i.val.snd.snd.snd = List.map cInt j.val.snd.snd.snd ∧ True) ∧ (decide ((X.getD i.val.fst ln0).part = (3 : Int)) = false → Ob (inI64 ((↑i.val.fst : Int) + (1 : Int))) ∧ ∃ (j :
  { x : Nat × List Int × List Int × List Int // x.fst ≤ X.length ∧ x.snd.fst.length ≤ x.fst ∧ x.snd.snd.fst.length ≤ x.fst ∧ x.snd.snd.snd.length ≤ x.fst }), (X.length -
  j.val.fst).succ.le (X.length - i.val.fst) ∧ True ∧ True ∧ True ∧ (X.length = X.length ∧ ∀ (i : Nat), i < X.length → cLn (X.getD i ln0) = cLn (X.getD i ln0)) ∧ (↑X.length : Int)
  = (↑X.length : Int) ∧ (↑i.val.fst : Int) + (1 : Int) = (↑j.val.fst : Int) ∧ (X.length = X.length ∧ ∀ (i : Nat), i < X.length → cLn (X.getD i ln0) = cLn (X.getD i ln0)) ∧ (True
  ∧ True ∧ True) ∧ (True ∧ True ∧ True) ∧ (True ∧ True ∧ True ∧ True) ∧ List.map cOpd (List.filterMap lnOpd (List.take i.val.fst X)) = List.map cOpd (List.filterMap lnOpd
  (List.take j.val.fst X)) ∧ List.map cMon (List.filterMap lnMon (List.take i.val.fst X)) = List.map cMon (List.filterMap lnMon (List.take j.val.fst X)) ∧ (List.map cInt
  i.val.snd.snd.fst ++ elsOf (1 : Nat) fun (i_1 : Nat) => List.take (1 : Nat) (List.drop (i_1 * (1 : Nat)) [AV.int IntKind.i64 (X.getD i.val.fst ln0).at_])) = List.map cInt
  j.val.snd.fst ∧ False ∧ List.map cInt i.val.snd.snd.snd = List.map cInt j.val.snd.snd.snd ∧ True))) ∧ (decide ((X.getD i.val.fst ln0).part = (↑(1 : Nat) : Int)) = false →
  (decide ((X.getD i.val.fst ln0).part = (↑(0 : Nat) : Int)) = true → (decide ((X.getD i.val.fst ln0).part = (1 : Int)) = true → Ob ((List.map cOpd (List.filterMap lnOpd
  (List.take i.val.fst X))).length + (elsOf (1 : Nat) fun (i_1 : Nat) => List.take (10 : Nat) (List.drop (i_1 * (10 : Nat)) [AV.str (X.getD i.val.fst ln0).opd.name, AV.int
  IntKind.i64 (X.getD i.val.fst ln0).opd.kind, AV.int IntKind.i64 (X.getD i.val.fst ln0).opd.ty.k, AV.int IntKind.i64 (X.getD i.val.fst ln0).opd.ty.l, AV.int IntKind.i64 (X.getD
  i.val.fst ln0).opd.ty.s, AV.int IntKind.i64 (X.getD i.val.fst ln0).opd.n, AV.str (X.getD i.val.fst ln0).opd.v, AV.str (X.getD i.val.fst ln0).opd.base, AV.int IntKind.i64
  (X.getD i.val.fst ln0).opd.off, AV.int IntKind.i64 (X.getD i.val.fst ln0).opd.tgt])).length ≤ (1048576 : Nat)) ∧ Ob (inI64 ((↑i.val.fst : Int) + (1 : Int))) ∧ ∃ (j :
  { x : Nat × List Int × List Int × List Int // x.fst ≤ X.length ∧ x.snd.fst.length ≤ x.fst ∧ x.snd.snd.fst.length ≤ x.fst ∧ x.snd.snd.snd.length ≤ x.fst }), (X.length -
  j.val.fst).succ.le (X.length - i.val.fst) ∧ True ∧ True ∧ True ∧ (X.length = X.length ∧ ∀ (i : Nat), i < X.length → cLn (X.getD i ln0) = cLn (X.getD i ln0)) ∧ (↑X.length : Int)
  = (↑X.length : Int) ∧ (↑i.val.fst : Int) + (1 : Int) = (↑j.val.fst : Int) ∧ (X.length = X.length ∧ ∀ (i : Nat), i < X.length → cLn (X.getD i ln0) = cLn (X.getD i ln0)) ∧ (True
  ∧ True ∧ True) ∧ (True ∧ True ∧ True) ∧ (True ∧ True ∧ True ∧ True) ∧ (List.map cOpd (List.filterMap lnOpd (List.take i.val.fst X)) ++ elsOf (1 : Nat) fun (i_1 : Nat) =>
  List.take (10 : Nat) (List.drop (i_1 * (10 : Nat)) [AV.str (X.getD i.val.fst ln0).opd.name, AV.int IntKind.i64 (X.getD i.val.fst ln0).opd.kind, AV.int IntKind.i64 (X.getD
  i.val.fst ln0).opd.ty.k, AV.int IntKind.i64 (X.getD i.val.fst ln0).opd.ty.l, AV.int IntKind.i64 (X.getD i.val.fst ln0).opd.ty.s, AV.int IntKind.i64 (X.getD i.val.fst
  ln0).opd.n, AV.str (X.getD i.val.fst ln0).opd.v, AV.str (X.getD i.val.fst ln0).opd.base, AV.int IntKind.i64 (X.getD i.val.fst ln0).opd.off, AV.int IntKind.i64 (X.getD i.val.fst
  ln0).opd.tgt])) = List.map cOpd (List.filterMap lnOpd (List.take j.val.fst X)) ∧ List.map cMon (List.filterMap lnMon (List.take i.val.fst X)) = List.map cMon (List.filterMap
  lnMon (List.take j.val.fst X)) ∧ List.map cInt i.val.snd.fst = List.map cInt j.val.snd.fst ∧ False ∧ List.map cInt i.val.snd.snd.snd = List.map cInt j.val.snd.snd.snd ∧ True) ∧
  (decide ((X.getD i.val.fst ln0).part = (1 : Int)) = false → (decide ((X.getD i.val.fst ln0).part = (3 : Int)) = true → Ob ((List.map cMon (List.filterMap lnMon (List.take
  i.val.fst X))).length + (elsOf (1 : Nat) fun (i_1 : Nat) => List.take (4 : Nat) (List.drop (i_1 * (4 : Nat)) [AV.int IntKind.i64 (X.getD i.val.fst ln0).mon.fr, AV.int
  IntKind.i64 (X.getD i.val.fst ln0).mon.to, AV.int IntKind.i64 (X.getD i.val.fst ln0).mon.ex, AV.int IntKind.i64 (X.getD i.val.fst ln0).mon.hd])).length ≤ (1048576 : Nat)) ∧ Ob
  (inI64 ((↑i.val.fst : Int) + (1 : Int))) ∧ ∃ (j :
  { x : Nat × List Int × List Int × List Int // x.fst ≤ X.length ∧ x.snd.fst.length ≤ x.fst ∧ x.snd.snd.fst.length ≤ x.fst ∧ x.snd.snd.snd.length ≤ x.fst }), (X.length -
  j.val.fst).succ.le (X.length - i.val.fst) ∧ True ∧ True ∧ True ∧ (X.length = X.length ∧ ∀ (i : Nat), i < X.length → cLn (X.getD i ln0) = cLn (X.getD i ln0)) ∧ (↑X.length : Int)
  = (↑X.length : Int) ∧ (↑i.val.fst : Int) + (1 : Int) = (↑j.val.fst : Int) ∧ (X.length = X.length ∧ ∀ (i : Nat), i < X.length → cLn (X.getD i ln0) = cLn (X.getD i ln0)) ∧ (True
  ∧ True ∧ True) ∧ (True ∧ True ∧ True) ∧ (True ∧ True ∧ True ∧ True) ∧ List.map cOpd (List.filterMap lnOpd (List.take i.val.fst X)) = List.map cOpd (List.filterMap lnOpd
  (List.take j.val.fst X)) ∧ (List.map cMon (List.filterMap lnMon (List.take i.val.fst X)) ++ elsOf (1 : Nat) fun (i_1 : Nat) => List.take (4 : Nat) (List.drop (i_1 * (4 : Nat))
  [AV.int IntKind.i64 (X.getD i.val.fst ln0).mon.fr, AV.int IntKind.i64 (X.getD i.val.fst ln0).mon.to, AV.int IntKind.i64 (X.getD i.val.fst ln0).mon.ex, AV.int IntKind.i64
  (X.getD i.val.fst ln0).mon.hd])) = List.map cMon (List.filterMap lnMon (List.take j.val.fst X)) ∧ List.map cInt i.val.snd.fst = List.map cInt j.val.snd.fst ∧ False ∧ List.map
  cInt i.val.snd.snd.snd = List.map cInt j.val.snd.snd.snd ∧ True) ∧ (decide ((X.getD i.val.fst ln0).part = (3 : Int)) = false → Ob (inI64 ((↑i.val.fst : Int) + (1 : Int))) ∧ ∃
  (j : { x : Nat × List Int × List Int × List Int // x.fst ≤ X.length ∧ x.snd.fst.length ≤ x.fst ∧ x.snd.snd.fst.length ≤ x.fst ∧ x.snd.snd.snd.length ≤ x.fst }), (X.length -
  j.val.fst).succ.le (X.length - i.val.fst) ∧ True ∧ True ∧ True ∧ (X.length = X.length ∧ ∀ (i : Nat), i < X.length → cLn (X.getD i ln0) = cLn (X.getD i ln0)) ∧ (↑X.length : Int)
  = (↑X.length : Int) ∧ (↑i.val.fst : Int) + (1 : Int) = (↑j.val.fst : Int) ∧ (X.length = X.length ∧ ∀ (i : Nat), i < X.length → cLn (X.getD i ln0) = cLn (X.getD i ln0)) ∧ (True
  ∧ True ∧ True) ∧ (True ∧ True ∧ True) ∧ (True ∧ True ∧ True ∧ True) ∧ List.map cOpd (List.filterMap lnOpd (List.take i.val.fst X)) = List.map cOpd (List.filterMap lnOpd
  (List.take j.val.fst X)) ∧ List.map cMon (List.filterMap lnMon (List.take i.val.fst X)) = List.map cMon (List.filterMap lnMon (List.take j.val.fst X)) ∧ List.map cInt
  i.val.snd.fst = List.map cInt j.val.snd.fst ∧ False ∧ List.map cInt i.val.snd.snd.snd = List.map cInt j.val.snd.snd.snd ∧ True))) ∧ (decide ((X.getD i.val.fst ln0).part = (↑(0
  : Nat) : Int)) = false → False))))) ∧ (decide ((X.getD i.val.fst ln0).part = (↑(2 : Nat) : Int)) = false → (decide ((X.getD i.val.fst ln0).part = (↑(1 : Nat) : Int)) = true →
  Ob ((List.map cInt i.val.snd.fst).length + (elsOf (1 : Nat) fun (i_1 : Nat) => List.take (1 : Nat) (List.drop (i_1 * (1 : Nat)) [AV.int IntKind.i64 (X.getD i.val.fst
  ln0).at_])).length ≤ (1048576 : Nat)) ∧ Ob ((0 : Int) ≤ (X.getD i.val.fst ln0).part ∧ (X.getD i.val.fst ln0).part < (↑(4 : Nat) : Int)) ∧ (decide ((X.getD i.val.fst ln0).part =
  (↑(3 : Nat) : Int)) = true → (decide ((X.getD i.val.fst ln0).part = (1 : Int)) = true → Ob ((List.map cOpd (List.filterMap lnOpd (List.take i.val.fst X))).length + (elsOf (1 :
  Nat) fun (i_1 : Nat) => List.take (10 : Nat) (List.drop (i_1 * (10 : Nat)) [AV.str (X.getD i.val.fst ln0).opd.name, AV.int IntKind.i64 (X.getD i.val.fst ln0).opd.kind, AV.int
  IntKind.i64 (X.getD i.val.fst ln0).opd.ty.k, AV.int IntKind.i64 (X.getD i.val.fst ln0).opd.ty.l, AV.int IntKind.i64 (X.getD i.val.fst ln0).opd.ty.s, AV.int IntKind.i64 (X.getD
  i.val.fst ln0).opd.n, AV.str (X.getD i.val.fst ln0).opd.v, AV.str (X.getD i.val.fst ln0).opd.base, AV.int IntKind.i64 (X.getD i.val.fst ln0).opd.off, AV.int IntKind.i64 (X.getD
  i.val.fst ln0).opd.tgt])).length ≤ (1048576 : Nat)) ∧ Ob (inI64 ((↑i.val.fst : Int) + (1 : Int))) ∧ ∃ (j :
  { x : Nat × List Int × List Int × List Int // x.fst ≤ X.length ∧ x.snd.fst.length ≤ x.fst ∧ x.snd.snd.fst.length ≤ x.fst ∧ x.snd.snd.snd.length ≤ x.fst }), (X.length -
  j.val.fst).succ.le (X.length - i.val.fst) ∧ True ∧ True ∧ True ∧ (X.length = X.length ∧ ∀ (i : Nat), i < X.length → cLn (X.getD i ln0) = cLn (X.getD i ln0)) ∧ (↑X.length : Int)
  = (↑X.length : Int) ∧ (↑i.val.fst : Int) + (1 : Int) = (↑j.val.fst : Int) ∧ (X.length = X.length ∧ ∀ (i : Nat), i < X.length → cLn (X.getD i ln0) = cLn (X.getD i ln0)) ∧ (True
  ∧ True ∧ True) ∧ (True ∧ True ∧ True) ∧ (True ∧ True ∧ True ∧ True) ∧ (List.map cOpd (List.filterMap lnOpd (List.take i.val.fst X)) ++ elsOf (1 : Nat) fun (i_1 : Nat) =>
  List.take (10 : Nat) (List.drop (i_1 * (10 : Nat)) [AV.str (X.getD i.val.fst ln0).opd.name, AV.int IntKind.i64 (X.getD i.val.fst ln0).opd.kind, AV.int IntKind.i64 (X.getD
  i.val.fst ln0).opd.ty.k, AV.int IntKind.i64 (X.getD i.val.fst ln0).opd.ty.l, AV.int IntKind.i64 (X.getD i.val.fst ln0).opd.ty.s, AV.int IntKind.i64 (X.getD i.val.fst
  ln0).opd.n, AV.str (X.getD i.val.fst ln0).opd.v, AV.str (X.getD i.val.fst ln0).opd.base, AV.int IntKind.i64 (X.getD i.val.fst ln0).opd.off, AV.int IntKind.i64 (X.getD i.val.fst
  ln0).opd.tgt])) = List.map cOpd (List.filterMap lnOpd (List.take j.val.fst X)) ∧ List.map cMon (List.filterMap lnMon (List.take i.val.fst X)) = List.map cMon (List.filterMap
  lnMon (List.take j.val.fst X)) ∧ False ∧ List.map cInt i.val.snd.snd.fst = List.map cInt j.val.snd.snd.fst ∧ (List.map cInt i.val.snd.fst ++ elsOf (1 : Nat) fun (i_1 : Nat) =>
  List.take (1 : Nat) (List.drop (i_1 * (1 : Nat)) [AV.int IntKind.i64 (X.getD i.val.fst ln0).at_])) = List.map cInt j.val.snd.snd.snd ∧ True) ∧ (decide ((X.getD i.val.fst
  ln0).part = (1 : Int)) = false → (decide ((X.getD i.val.fst ln0).part = (3 : Int)) = true → Ob ((List.map cMon (List.filterMap lnMon (List.take i.val.fst X))).length + (elsOf
  (1 : Nat) fun (i_1 : Nat) => List.take (4 : Nat) (List.drop (i_1 * (4 : Nat)) [AV.int IntKind.i64 (X.getD i.val.fst ln0).mon.fr, AV.int IntKind.i64 (X.getD i.val.fst
  ln0).mon.to, AV.int IntKind.i64 (X.getD i.val.fst ln0).mon.ex, AV.int IntKind.i64 (X.getD i.val.fst ln0).mon.hd])).length ≤ (1048576 : Nat)) ∧ Ob (inI64 ((↑i.val.fst : Int) +
  (1 : Int))) ∧ ∃ (j : { x : Nat × List Int × List Int × List Int // x.fst ≤ X.length ∧ x.snd.fst.length ≤ x.fst ∧ x.snd.snd.fst.length ≤ x.fst ∧ x.snd.snd.snd.length ≤ x.fst }),
  (X.length - j.val.fst).succ.le (X.length - i.val.fst) ∧ True ∧ True ∧ True ∧ (X.length = X.length ∧ ∀ (i : Nat), i < X.length → cLn (X.getD i ln0) = cLn (X.getD i ln0)) ∧
  (↑X.length : Int) = (↑X.length : Int) ∧ (↑i.val.fst : Int) + (1 : Int) = (↑j.val.fst : Int) ∧ (X.length = X.length ∧ ∀ (i : Nat), i < X.length → cLn (X.getD i ln0) = cLn
  (X.getD i ln0)) ∧ (True ∧ True ∧ True) ∧ (True ∧ True ∧ True) ∧ (True ∧ True ∧ True ∧ True) ∧ List.map cOpd (List.filterMap lnOpd (List.take i.val.fst X)) = List.map cOpd
  (List.filterMap lnOpd (List.take j.val.fst X)) ∧ (List.map cMon (List.filterMap lnMon (List.take i.val.fst X)) ++ elsOf (1 : Nat) fun (i_1 : Nat) => List.take (4 : Nat)
  (List.drop (i_1 * (4 : Nat)) [AV.int IntKind.i64 (X.getD i.val.fst ln0).mon.fr, AV.int IntKind.i64 (X.getD i.val.fst ln0).mon.to, AV.int IntKind.i64 (X.getD i.val.fst
  ln0).mon.ex, AV.int IntKind.i64 (X.getD i.val.fst ln0).mon.hd])) = List.map cMon (List.filterMap lnMon (List.take j.val.fst X)) ∧ False ∧ List.map cInt i.val.snd.snd.fst =
  List.map cInt j.val.snd.snd.fst ∧ (List.map cInt i.val.snd.fst ++ elsOf (1 : Nat) fun (i_1 : Nat) => List.take (1 : Nat) (List.drop (i_1 * (1 : Nat)) [AV.int IntKind.i64
  (X.getD i.val.fst ln0).at_])) = List.map cInt j.val.snd.snd.snd ∧ True) ∧ (decide ((X.getD i.val.fst ln0).part = (3 : Int)) = false → Ob (inI64 ((↑i.val.fst : Int) + (1 :
  Int))) ∧ ∃ (j : { x : Nat × List Int × List Int × List Int // x.fst ≤ X.length ∧ x.snd.fst.length ≤ x.fst ∧ x.snd.snd.fst.length ≤ x.fst ∧ x.snd.snd.snd.length ≤ x.fst }),
  (X.length - j.val.fst).succ.le (X.length - i.val.fst) ∧ True ∧ True ∧ True ∧ (X.length = X.length ∧ ∀ (i : Nat), i < X.length → cLn (X.getD i ln0) = cLn (X.getD i ln0)) ∧
  (↑X.length : Int) = (↑X.length : Int) ∧ (↑i.val.fst : Int) + (1 : Int) = (↑j.val.fst : Int) ∧ (X.length = X.length ∧ ∀ (i : Nat), i < X.length → cLn (X.getD i ln0) = cLn
  (X.getD i ln0)) ∧ (True ∧ True ∧ True) ∧ (True ∧ True ∧ True) ∧ (True ∧ True ∧ True ∧ True) ∧ List.map cOpd (List.filterMap lnOpd (List.take i.val.fst X)) = List.map cOpd
  (List.filterMap lnOpd (List.take j.val.fst X)) ∧ List.map cMon (List.filterMap lnMon (List.take i.val.fst X)) = List.map cMon (List.filterMap lnMon (List.take j.val.fst X)) ∧
  False ∧ List.map cInt i.val.snd.snd.fst = List.map cInt j.val.snd.snd.fst ∧ (List.map cInt i.val.snd.fst ++ elsOf (1 : Nat) fun (i_1 : Nat) => List.take (1 : Nat) (List.drop
  (i_1 * (1 : Nat)) [AV.int IntKind.i64 (X.getD i.val.fst ln0).at_])) = List.map cInt j.val.snd.snd.snd ∧ True))) ∧ (decide ((X.getD i.val.fst ln0).part = (↑(3 : Nat) : Int)) =
  false → (decide ((X.getD i.val.fst ln0).part = (↑(2 : Nat) : Int)) = true → (decide ((X.getD i.val.fst ln0).part = (1 : Int)) = true → Ob ((List.map cOpd (List.filterMap lnOpd
  (List.take i.val.fst X))).length + (elsOf (1 : Nat) fun (i_1 : Nat) => List.take (10 : Nat) (List.drop (i_1 * (10 : Nat)) [AV.str (X.getD i.val.fst ln0).opd.name, AV.int
  IntKind.i64 (X.getD i.val.fst ln0).opd.kind, AV.int IntKind.i64 (X.getD i.val.fst ln0).opd.ty.k, AV.int IntKind.i64 (X.getD i.val.fst ln0).opd.ty.l, AV.int IntKind.i64 (X.getD
  i.val.fst ln0).opd.ty.s, AV.int IntKind.i64 (X.getD i.val.fst ln0).opd.n, AV.str (X.getD i.val.fst ln0).opd.v, AV.str (X.getD i.val.fst ln0).opd.base, AV.int IntKind.i64
  (X.getD i.val.fst ln0).opd.off, AV.int IntKind.i64 (X.getD i.val.fst ln0).opd.tgt])).length ≤ (1048576 : Nat)) ∧ Ob (inI64 ((↑i.val.fst : Int) + (1 : Int))) ∧ ∃ (j :
  { x : Nat × List Int × List Int × List Int // x.fst ≤ X.length ∧ x.snd.fst.length ≤ x.fst ∧ x.snd.snd.fst.length ≤ x.fst ∧ x.snd.snd.snd.length ≤ x.fst }), (X.length -
  j.val.fst).succ.le (X.length - i.val.fst) ∧ True ∧ True ∧ True ∧ (X.length = X.length ∧ ∀ (i : Nat), i < X.length → cLn (X.getD i ln0) = cLn (X.getD i ln0)) ∧ (↑X.length : Int)
  = (↑X.length : Int) ∧ (↑i.val.fst : Int) + (1 : Int) = (↑j.val.fst : Int) ∧ (X.length = X.length ∧ ∀ (i : Nat), i < X.length → cLn (X.getD i ln0) = cLn (X.getD i ln0)) ∧ (True
  ∧ True ∧ True) ∧ (True ∧ True ∧ True) ∧ (True ∧ True ∧ True ∧ True) ∧ (List.map cOpd (List.filterMap lnOpd (List.take i.val.fst X)) ++ elsOf (1 : Nat) fun (i_1 : Nat) =>
  List.take (10 : Nat) (List.drop (i_1 * (10 : Nat)) [AV.str (X.getD i.val.fst ln0).opd.name, AV.int IntKind.i64 (X.getD i.val.fst ln0).opd.kind, AV.int IntKind.i64 (X.getD
  i.val.fst ln0).opd.ty.k, AV.int IntKind.i64 (X.getD i.val.fst ln0).opd.ty.l, AV.int IntKind.i64 (X.getD i.val.fst ln0).opd.ty.s, AV.int IntKind.i64 (X.getD i.val.fst
  ln0).opd.n, AV.str (X.getD i.val.fst ln0).opd.v, AV.str (X.getD i.val.fst ln0).opd.base, AV.int IntKind.i64 (X.getD i.val.fst ln0).opd.off, AV.int IntKind.i64 (X.getD i.val.fst
  ln0).opd.tgt])) = List.map cOpd (List.filterMap lnOpd (List.take j.val.fst X)) ∧ List.map cMon (List.filterMap lnMon (List.take i.val.fst X)) = List.map cMon (List.filterMap
  lnMon (List.take j.val.fst X)) ∧ False ∧ (List.map cInt i.val.snd.fst ++ elsOf (1 : Nat) fun (i_1 : Nat) => List.take (1 : Nat) (List.drop (i_1 * (1 : Nat)) [AV.int IntKind.i64
  (X.getD i.val.fst ln0).at_])) = List.map cInt j.val.snd.snd.fst ∧ List.map cInt i.val.snd.snd.snd = List.map cInt j.val.snd.snd.snd ∧ True) ∧ (decide ((X.getD i.val.fst
  ln0).part = (1 : Int)) = false → (decide ((X.getD i.val.fst ln0).part = (3 : Int)) = true → Ob ((List.map cMon (List.filterMap lnMon (List.take i.val.fst X))).length + (elsOf
  (1 : Nat) fun (i_1 : Nat) => List.take (4 : Nat) (List.drop (i_1 * (4 : Nat)) [AV.int IntKind.i64 (X.getD i.val.fst ln0).mon.fr, AV.int IntKind.i64 (X.getD i.val.fst
  ln0).mon.to, AV.int IntKind.i64 (X.getD i.val.fst ln0).mon.ex, AV.int IntKind.i64 (X.getD i.val.fst ln0).mon.hd])).length ≤ (1048576 : Nat)) ∧ Ob (inI64 ((↑i.val.fst : Int) +
  (1 : Int))) ∧ ∃ (j : { x : Nat × List Int × List Int × List Int // x.fst ≤ X.length ∧ x.snd.fst.length ≤ x.fst ∧ x.snd.snd.fst.length ≤ x.fst ∧ x.snd.snd.snd.length ≤ x.fst }),
  (X.length - j.val.fst).succ.le (X.length - i.val.fst) ∧ True ∧ True ∧ True ∧ (X.length = X.length ∧ ∀ (i : Nat), i < X.length → cLn (X.getD i ln0) = cLn (X.getD i ln0)) ∧
  (↑X.length : Int) = (↑X.length : Int) ∧ (↑i.val.fst : Int) + (1 : Int) = (↑j.val.fst : Int) ∧ (X.length = X.length ∧ ∀ (i : Nat), i < X.length → cLn (X.getD i ln0) = cLn
  (X.getD i ln0)) ∧ (True ∧ True ∧ True) ∧ (True ∧ True ∧ True) ∧ (True ∧ True ∧ True ∧ True) ∧ List.map cOpd (List.filterMap lnOpd (List.take i.val.fst X)) = List.map cOpd
  (List.filterMap lnOpd (List.take j.val.fst X)) ∧ (List.map cMon (List.filterMap lnMon (List.take i.val.fst X)) ++ elsOf (1 : Nat) fun (i_1 : Nat) => List.take (4 : Nat)
  (List.drop (i_1 * (4 : Nat)) [AV.int IntKind.i64 (X.getD i.val.fst ln0).mon.fr, AV.int IntKind.i64 (X.getD i.val.fst ln0).mon.to, AV.int IntKind.i64 (X.getD i.val.fst
  ln0).mon.ex, AV.int IntKind.i64 (X.getD i.val.fst ln0).mon.hd])) = List.map cMon (List.filterMap lnMon (List.take j.val.fst X)) ∧ False ∧ (List.map cInt i.val.snd.fst ++ elsOf
  (1 : Nat) fun (i_1 : Nat) => List.take (1 : Nat) (List.drop (i_1 * (1 : Nat)) [AV.int IntKind.i64 (X.getD i.val.fst ln0).at_])) = List.map cInt j.val.snd.snd.fst ∧ List.map
  cInt i.val.snd.snd.snd = List.map cInt j.val.snd.snd.snd ∧ True) ∧ (decide ((X.getD i.val.fst ln0).part = (3 : Int)) = false → Ob (inI64 ((↑i.val.fst : Int) + (1 : Int))) ∧ ∃
  (j : { x : Nat × List Int × List Int × List Int // x.fst ≤ X.length ∧ x.snd.fst.length ≤ x.fst ∧ x.snd.snd.fst.length ≤ x.fst ∧ x.snd.snd.snd.length ≤ x.fst }), (X.length -
  j.val.fst).succ.le (X.length - i.val.fst) ∧ True ∧ True ∧ True ∧ (X.length = X.length ∧ ∀ (i : Nat), i < X.length → cLn (X.getD i ln0) = cLn (X.getD i ln0)) ∧ (↑X.length : Int)
  = (↑X.length : Int) ∧ (↑i.val.fst : Int) + (1 : Int) = (↑j.val.fst : Int) ∧ (X.length = X.length ∧ ∀ (i : Nat), i < X.length → cLn (X.getD i ln0) = cLn (X.getD i ln0)) ∧ (True
  ∧ True ∧ True) ∧ (True ∧ True ∧ True) ∧ (True ∧ True ∧ True ∧ True) ∧ List.map cOpd (List.filterMap lnOpd (List.take i.val.fst X)) = List.map cOpd (List.filterMap lnOpd
  (List.take j.val.fst X)) ∧ List.map cMon (List.filterMap lnMon (List.take i.val.fst X)) = List.map cMon (List.filterMap lnMon (List.take j.val.fst X)) ∧ False ∧ (List.map cInt
  i.val.snd.fst ++ elsOf (1 : Nat) fun (i_1 : Nat) => List.take (1 : Nat) (List.drop (i_1 * (1 : Nat)) [AV.int IntKind.i64 (X.getD i.val.fst ln0).at_])) = List.map cInt
  j.val.snd.snd.fst ∧ List.map cInt i.val.snd.snd.snd = List.map cInt j.val.snd.snd.snd ∧ True))) ∧ (decide ((X.getD i.val.fst ln0).part = (↑(2 : Nat) : Int)) = false → (decide
  ((X.getD i.val.fst ln0).part = (↑(1 : Nat) : Int)) = true → (decide ((X.getD i.val.fst ln0).part = (1 : Int)) = true → Ob ((List.map cOpd (List.filterMap lnOpd (List.take
  i.val.fst X))).length + (elsOf (1 : Nat) fun (i_1 : Nat) => List.take (10 : Nat) (List.drop (i_1 * (10 : Nat)) [AV.str (X.getD i.val.fst ln0).opd.name, AV.int IntKind.i64
  (X.getD i.val.fst ln0).opd.kind, AV.int IntKind.i64 (X.getD i.val.fst ln0).opd.ty.k, AV.int IntKind.i64 (X.getD i.val.fst ln0).opd.ty.l, AV.int IntKind.i64 (X.getD i.val.fst
  ln0).opd.ty.s, AV.int IntKind.i64 (X.getD i.val.fst ln0).opd.n, AV.str (X.getD i.val.fst ln0).opd.v, AV.str (X.getD i.val.fst ln0).opd.base, AV.int IntKind.i64 (X.getD
  i.val.fst ln0).opd.off, AV.int IntKind.i64 (X.getD i.val.fst ln0).opd.tgt])).length ≤ (1048576 : Nat)) ∧ Ob (inI64 ((↑i.val.fst : Int) + (1 : Int))) ∧ ∃ (j :
  { x : Nat × List Int × List Int × List Int // x.fst ≤ X.length ∧ x.snd.fst.length ≤ x.fst ∧ x.snd.snd.fst.length ≤ x.fst ∧ x.snd.snd.snd.length ≤ x.fst }), (X.length -
  j.val.fst).succ.le (X.length - i.val.fst) ∧ True ∧ True ∧ True ∧ (X.length = X.length ∧ ∀ (i : Nat), i < X.length → cLn (X.getD i ln0) = cLn (X.getD i ln0)) ∧ (↑X.length : Int)
  = (↑X.length : Int) ∧ (↑i.val.fst : Int) + (1 : Int) = (↑j.val.fst : Int) ∧ (X.length = X.length ∧ ∀ (i : Nat), i < X.length → cLn (X.getD i ln0) = cLn (X.getD i ln0)) ∧ (True
  ∧ True ∧ True) ∧ (True ∧ True ∧ True) ∧ (True ∧ True ∧ True ∧ True) ∧ (List.map cOpd (List.filterMap lnOpd (List.take i.val.fst X)) ++ elsOf (1 : Nat) fun (i_1 : Nat) =>
  List.take (10 : Nat) (List.drop (i_1 * (10 : Nat)) [AV.str (X.getD i.val.fst ln0).opd.name, AV.int IntKind.i64 (X.getD i.val.fst ln0).opd.kind, AV.int IntKind.i64 (X.getD
  i.val.fst ln0).opd.ty.k, AV.int IntKind.i64 (X.getD i.val.fst ln0).opd.ty.l, AV.int IntKind.i64 (X.getD i.val.fst ln0).opd.ty.s, AV.int IntKind.i64 (X.getD i.val.fst
  ln0).opd.n, AV.str (X.getD i.val.fst ln0).opd.v, AV.str (X.getD i.val.fst ln0).opd.base, AV.int IntKind.i64 (X.getD i.val.fst ln0).opd.off, AV.int IntKind.i64 (X.getD i.val.fst
  ln0).opd.tgt])) = List.map cOpd (List.filterMap lnOpd (List.take j.val.fst X)) ∧ List.map cMon (List.filterMap lnMon (List.take i.val.fst X)) = List.map cMon (List.filterMap
  lnMon (List.take j.val.fst X)) ∧ (List.map cInt i.val.snd.fst ++ elsOf (1 : Nat) fun (i_1 : Nat) => List.take (1 : Nat) (List.drop (i_1 * (1 : Nat)) [AV.int IntKind.i64 (X.getD
  i.val.fst ln0).at_])) = List.map cInt j.val.snd.fst ∧ List.map cInt i.val.snd.snd.fst = List.map cInt j.val.snd.snd.fst ∧ List.map cInt i.val.snd.snd.snd = List.map cInt
  j.val.snd.snd.snd ∧ True) ∧ (decide ((X.getD i.val.fst ln0).part = (1 : Int)) = false → (decide ((X.getD i.val.fst ln0).part = (3 : Int)) = true → Ob ((List.map cMon
  (List.filterMap lnMon (List.take i.val.fst X))).length + (elsOf (1 : Nat) fun (i_1 : Nat) => List.take (4 : Nat) (List.drop (i_1 * (4 : Nat)) [AV.int IntKind.i64 (X.getD
  i.val.fst ln0).mon.fr, AV.int IntKind.i64 (X.getD i.val.fst ln0).mon.to, AV.int IntKind.i64 (X.getD i.val.fst ln0).mon.ex, AV.int IntKind.i64 (X.getD i.val.fst
  ln0).mon.hd])).length ≤ (1048576 : Nat)) ∧ Ob (inI64 ((↑i.val.fst : Int) + (1 : Int))) ∧ ∃ (j :
  { x : Nat × List Int × List Int × List Int // x.fst ≤ X.length ∧ x.snd.fst.length ≤ x.fst ∧ x.snd.snd.fst.length ≤ x.fst ∧ x.snd.snd.snd.length ≤ x.fst }), (X.length -
  j.val.fst).succ.le (X.length - i.val.fst) ∧ True ∧ True ∧ True ∧ (X.length = X.length ∧ ∀ (i : Nat), i < X.length → cLn (X.getD i ln0) = cLn (X.getD i ln0)) ∧ (↑X.length : Int)
  = (↑X.length : Int) ∧ (↑i.val.fst : Int) + (1 : Int) = (↑j.val.fst : Int) ∧ (X.length = X.length ∧ ∀ (i : Nat), i < X.length → cLn (X.getD i ln0) = cLn (X.getD i ln0)) ∧ (True
  ∧ True ∧ True) ∧ (True ∧ True ∧ True) ∧ (True ∧ True ∧ True ∧ True) ∧ List.map cOpd (List.filterMap lnOpd (List.take i.val.fst X)) = List.map cOpd (List.filterMap lnOpd
  (List.take j.val.fst X)) ∧ (List.map cMon (List.filterMap lnMon (List.take i.val.fst X)) ++ elsOf (1 : Nat) fun (i_1 : Nat) => List.take (4 : Nat) (List.drop (i_1 * (4 : Nat))
  [AV.int IntKind.i64 (X.getD i.val.fst ln0).mon.fr, AV.int IntKind.i64 (X.getD i.val.fst ln0).mon.to, AV.int IntKind.i64 (X.getD i.val.fst ln0).mon.ex, AV.int IntKind.i64
  (X.getD i.val.fst ln0).mon.hd])) = List.map cMon (List.filterMap lnMon (List.take j.val.fst X)) ∧ (List.map cInt i.val.snd.fst ++ elsOf (1 : Nat) fun (i_1 : Nat) => List.take
  (1 : Nat) (List.drop (i_1 * (1 : Nat)) [AV.int IntKind.i64 (X.getD i.val.fst ln0).at_])) = List.map cInt j.val.snd.fst ∧ List.map cInt i.val.snd.snd.fst = List.map cInt
  j.val.snd.snd.fst ∧ List.map cInt i.val.snd.snd.snd = List.map cInt j.val.snd.snd.snd ∧ True) ∧ (decide ((X.getD i.val.fst ln0).part = (3 : Int)) = false → Ob (inI64
  ((↑i.val.fst : Int) + (1 : Int))) ∧ ∃ (j :
  { x : Nat × List Int × List Int × List Int // x.fst ≤ X.length ∧ x.snd.fst.length ≤ x.fst ∧ x.snd.snd.fst.length ≤ x.fst ∧ x.snd.snd.snd.length ≤ x.fst }), (X.length -
  j.val.fst).succ.le (X.length - i.val.fst) ∧ True ∧ True ∧ True ∧ (X.length = X.length ∧ ∀ (i : Nat), i < X.length → cLn (X.getD i ln0) = cLn (X.getD i ln0)) ∧ (↑X.length : Int)
  = (↑X.length : Int) ∧ (↑i.val.fst : Int) + (1 : Int) = (↑j.val.fst : Int) ∧ (X.length = X.length ∧ ∀ (i : Nat), i < X.length → cLn (X.getD i ln0) = cLn (X.getD i ln0)) ∧ (True
  ∧ True ∧ True) ∧ (True ∧ True ∧ True) ∧ (True ∧ True ∧ True ∧ True) ∧ List.map cOpd (List.filterMap lnOpd (List.take i.val.fst X)) = List.map cOpd (List.filterMap lnOpd
  (List.take j.val.fst X)) ∧ List.map cMon (List.filterMap lnMon (List.take i.val.fst X)) = List.map cMon (List.filterMap lnMon (List.take j.val.fst X)) ∧ (List.map cInt
  i.val.snd.fst ++ elsOf (1 : Nat) fun (i_1 : Nat) => List.take (1 : Nat) (List.drop (i_1 * (1 : Nat)) [AV.int IntKind.i64 (X.getD i.val.fst ln0).at_])) = List.map cInt
  j.val.snd.fst ∧ List.map cInt i.val.snd.snd.fst = List.map cInt j.val.snd.snd.fst ∧ List.map cInt i.val.snd.snd.snd = List.map cInt j.val.snd.snd.snd ∧ True))) ∧ (decide
  ((X.getD i.val.fst ln0).part = (↑(1 : Nat) : Int)) = false → (decide ((X.getD i.val.fst ln0).part = (↑(0 : Nat) : Int)) = true → (decide ((X.getD i.val.fst ln0).part = (1 :
  Int)) = true → Ob ((List.map cOpd (List.filterMap lnOpd (List.take i.val.fst X))).length + (elsOf (1 : Nat) fun (i_1 : Nat) => List.take (10 : Nat) (List.drop (i_1 * (10 :
  Nat)) [AV.str (X.getD i.val.fst ln0).opd.name, AV.int IntKind.i64 (X.getD i.val.fst ln0).opd.kind, AV.int IntKind.i64 (X.getD i.val.fst ln0).opd.ty.k, AV.int IntKind.i64
  (X.getD i.val.fst ln0).opd.ty.l, AV.int IntKind.i64 (X.getD i.val.fst ln0).opd.ty.s, AV.int IntKind.i64 (X.getD i.val.fst ln0).opd.n, AV.str (X.getD i.val.fst ln0).opd.v,
  AV.str (X.getD i.val.fst ln0).opd.base, AV.int IntKind.i64 (X.getD i.val.fst ln0).opd.off, AV.int IntKind.i64 (X.getD i.val.fst ln0).opd.tgt])).length ≤ (1048576 : Nat)) ∧ Ob
  (inI64 ((↑i.val.fst : Int) + (1 : Int))) ∧ ∃ (j :
  { x : Nat × List Int × List Int × List Int // x.fst ≤ X.length ∧ x.snd.fst.length ≤ x.fst ∧ x.snd.snd.fst.length ≤ x.fst ∧ x.snd.snd.snd.length ≤ x.fst }), (X.length -
  j.val.fst).succ.le (X.length - i.val.fst) ∧ True ∧ True ∧ True ∧ (X.length = X.length ∧ ∀ (i : Nat), i < X.length → cLn (X.getD i ln0) = cLn (X.getD i ln0)) ∧ (↑X.length : Int)
  = (↑X.length : Int) ∧ (↑i.val.fst : Int) + (1 : Int) = (↑j.val.fst : Int) ∧ (X.length = X.length ∧ ∀ (i : Nat), i < X.length → cLn (X.getD i ln0) = cLn (X.getD i ln0)) ∧ (True
  ∧ True ∧ True) ∧ (True ∧ True ∧ True) ∧ (True ∧ True ∧ True ∧ True) ∧ (List.map cOpd (List.filterMap lnOpd (List.take i.val.fst X)) ++ elsOf (1 : Nat) fun (i_1 : Nat) =>
  List.take (10 : Nat) (List.drop (i_1 * (10 : Nat)) [AV.str (X.getD i.val.fst ln0).opd.name, AV.int IntKind.i64 (X.getD i.val.fst ln0).opd.kind, AV.int IntKind.i64 (X.getD
  i.val.fst ln0).opd.ty.k, AV.int IntKind.i64 (X.getD i.val.fst ln0).opd.ty.l, AV.int IntKind.i64 (X.getD i.val.fst ln0).opd.ty.s, AV.int IntKind.i64 (X.getD i.val.fst
  ln0).opd.n, AV.str (X.getD i.val.fst ln0).opd.v, AV.str (X.getD i.val.fst ln0).opd.base, AV.int IntKind.i64 (X.getD i.val.fst ln0).opd.off, AV.int IntKind.i64 (X.getD i.val.fst
  ln0).opd.tgt])) = List.map cOpd (List.filterMap lnOpd (List.take j.val.fst X)) ∧ List.map cMon (List.filterMap lnMon (List.take i.val.fst X)) = List.map cMon (List.filterMap
  lnMon (List.take j.val.fst X)) ∧ False ∧ List.map cInt i.val.snd.snd.fst = List.map cInt j.val.snd.snd.fst ∧ List.map cInt i.val.snd.snd.snd = List.map cInt j.val.snd.snd.snd ∧
  True) ∧ (decide ((X.getD i.val.fst ln0).part = (1 : Int)) = false → (decide ((X.getD i.val.fst ln0).part = (3 : Int)) = true → Ob ((List.map cMon (List.filterMap lnMon
  (List.take i.val.fst X))).length + (elsOf (1 : Nat) fun (i_1 : Nat) => List.take (4 : Nat) (List.drop (i_1 * (4 : Nat)) [AV.int IntKind.i64 (X.getD i.val.fst ln0).mon.fr,
  AV.int IntKind.i64 (X.getD i.val.fst ln0).mon.to, AV.int IntKind.i64 (X.getD i.val.fst ln0).mon.ex, AV.int IntKind.i64 (X.getD i.val.fst ln0).mon.hd])).length ≤ (1048576 :
  Nat)) ∧ Ob (inI64 ((↑i.val.fst : Int) + (1 : Int))) ∧ ∃ (j :
  { x : Nat × List Int × List Int × List Int // x.fst ≤ X.length ∧ x.snd.fst.length ≤ x.fst ∧ x.snd.snd.fst.length ≤ x.fst ∧ x.snd.snd.snd.length ≤ x.fst }), (X.length -
  j.val.fst).succ.le (X.length - i.val.fst) ∧ True ∧ True ∧ True ∧ (X.length = X.length ∧ ∀ (i : Nat), i < X.length → cLn (X.getD i ln0) = cLn (X.getD i ln0)) ∧ (↑X.length : Int)
  = (↑X.length : Int) ∧ (↑i.val.fst : Int) + (1 : Int) = (↑j.val.fst : Int) ∧ (X.length = X.length ∧ ∀ (i : Nat), i < X.length → cLn (X.getD i ln0) = cLn (X.getD i ln0)) ∧ (True
  ∧ True ∧ True) ∧ (True ∧ True ∧ True) ∧ (True ∧ True ∧ True ∧ True) ∧ List.map cOpd (List.filterMap lnOpd (List.take i.val.fst X)) = List.map cOpd (List.filterMap lnOpd
  (List.take j.val.fst X)) ∧ (List.map cMon (List.filterMap lnMon (List.take i.val.fst X)) ++ elsOf (1 : Nat) fun (i_1 : Nat) => List.take (4 : Nat) (List.drop (i_1 * (4 : Nat))
  [AV.int IntKind.i64 (X.getD i.val.fst ln0).mon.fr, AV.int IntKind.i64 (X.getD i.val.fst ln0).mon.to, AV.int IntKind.i64 (X.getD i.val.fst ln0).mon.ex, AV.int IntKind.i64
  (X.getD i.val.fst ln0).mon.hd])) = List.map cMon (List.filterMap lnMon (List.take j.val.fst X)) ∧ False ∧ List.map cInt i.val.snd.snd.fst = List.map cInt j.val.snd.snd.fst ∧
  List.map cInt i.val.snd.snd.snd = List.map cInt j.val.snd.snd.snd ∧ True) ∧ (decide ((X.getD i.val.fst ln0).part = (3 : Int)) = false → Ob (inI64 ((↑i.val.fst : Int) + (1 :
  Int))) ∧ ∃ (j : { x : Nat × List Int × List Int × List Int // x.fst ≤ X.length ∧ x.snd.fst.length ≤ x.fst ∧ x.snd.snd.fst.length ≤ x.fst ∧ x.snd.snd.snd.length ≤ x.fst }),
  (X.length - j.val.fst).succ.le (X.length - i.val.fst) ∧ True ∧ True ∧ True ∧ (X.length = X.length ∧ ∀ (i : Nat), i < X.length → cLn (X.getD i ln0) = cLn (X.getD i ln0)) ∧
  (↑X.length : Int) = (↑X.length : Int) ∧ (↑i.val.fst : Int) + (1 : Int) = (↑j.val.fst : Int) ∧ (X.length = X.length ∧ ∀ (i : Nat), i < X.length → cLn (X.getD i ln0) = cLn
  (X.getD i ln0)) ∧ (True ∧ True ∧ True) ∧ (True ∧ True ∧ True) ∧ (True ∧ True ∧ True ∧ True) ∧ List.map cOpd (List.filterMap lnOpd (List.take i.val.fst X)) = List.map cOpd
  (List.filterMap lnOpd (List.take j.val.fst X)) ∧ List.map cMon (List.filterMap lnMon (List.take i.val.fst X)) = List.map cMon (List.filterMap lnMon (List.take j.val.fst X)) ∧
  False ∧ List.map cInt i.val.snd.snd.fst = List.map cInt j.val.snd.snd.fst ∧ List.map cInt i.val.snd.snd.snd = List.map cInt j.val.snd.snd.snd ∧ True))) ∧ (decide ((X.getD
  i.val.fst ln0).part = (↑(0 : Nat) : Int)) = false → False))))) ∧ (decide ((X.getD i.val.fst ln0).part = (↑(1 : Nat) : Int)) = false → (decide ((X.getD i.val.fst ln0).part =
  (↑(0 : Nat) : Int)) = true → False) ∧ (decide ((X.getD i.val.fst ln0).part = (↑(0 : Nat) : Int)) = false → False))))) ∧ (decide ((↑i.val.fst : Int) < (↑X.length : Int)) = false
  → (∃ (j : { i : Nat // i ≤ X.length }), True ∧ True ∧ (X.length = X.length ∧ ∀ (i : Nat), i < X.length → cLn (X.getD i ln0) = cLn (X.getD i ln0)) ∧ (↑X.length : Int) =
  (↑X.length : Int) ∧ (0 : Int) = (↑j.val : Int) ∧ (True ∧ True ∧ True) ∧ (True ∧ True ∧ True) ∧ List.map cOpd (List.filterMap lnOpd (List.take i.val.fst X)) = List.map cOpd
  (opsL X) ∧ List.map cIns (List.filterMap (lnIns (opsL X)) (List.take j.val X)) = [] ∧ List.map cMon (List.filterMap lnMon (List.take i.val.fst X)) = List.map cMon
  (List.filterMap lnMon X) ∧ True) ∧ ∀ (i : { i : Nat // i ≤ X.length }), (decide ((↑i.val : Int) < (↑X.length : Int)) = true → Ob ((0 : Int) ≤ (↑i.val : Int) ∧ (↑i.val : Int) <
  (↑X.length : Int)) ∧ ((!decide ((X.getD i.val ln0).part = (2 : Int))) = true → Ob (inI64 ((↑i.val : Int) + (1 : Int))) ∧ ∃ (j : { i : Nat // i ≤ X.length }), (X.length -
  j.val).succ.le (X.length - i.val) ∧ True ∧ True ∧ (X.length = X.length ∧ ∀ (i : Nat), i < X.length → cLn (X.getD i ln0) = cLn (X.getD i ln0)) ∧ (↑X.length : Int) = (↑X.length :
  Int) ∧ (↑i.val : Int) + (1 : Int) = (↑j.val : Int) ∧ (True ∧ True ∧ True) ∧ (True ∧ True ∧ True) ∧ List.map cOpd (opsL X) = List.map cOpd (opsL X) ∧ List.map cIns
  (List.filterMap (lnIns (opsL X)) (List.take i.val X)) = List.map cIns (List.filterMap (lnIns (opsL X)) (List.take j.val X)) ∧ List.map cMon (List.filterMap lnMon X) = List.map
  cMon (List.filterMap lnMon X) ∧ True) ∧ ((!decide ((X.getD i.val ln0).part = (2 : Int))) = false → Ob ((0 : Int) ≤ (X.getD i.val ln0).op ∧ (X.getD i.val ln0).op < (↑(19 : Nat)
  : Int)) ∧ ((!decide ((↑(X.getD i.val ln0).args.length : Int) = (↑(roles (↑(X.getD i.val ln0).op.toNat : Int)).length : Int))) = true → ((prgOfLns X).ops.length = (0 : Nat) ∧
  (prgOfLns X).ins.length = (0 : Nat) ∧ (prgOfLns X).mons.length = (0 : Nat)) ∧ (X.getD i.val ln0).at_ = (0 : Int) ∧ (37 : Int) = (0 : Int)) ∧ ((!decide ((↑(X.getD i.val
  ln0).args.length : Int) = (↑(roles (↑(X.getD i.val ln0).op.toNat : Int)).length : Int))) = false → ∃ (j :
  { x : Nat × Nat // x.fst < X.length ∧ (X.getD x.fst ln0).part = (2 : Int) ∧ x.snd ≤ (lnArgs X x.fst).length }), (True ∧ True ∧ (X.length = X.length ∧ ∀ (i : Nat), i < X.length
  → cLn (X.getD i ln0) = cLn (X.getD i ln0)) ∧ (↑X.length : Int) = (↑X.length : Int) ∧ (↑i.val : Int) = (↑j.val.fst : Int) ∧ True ∧ True ∧ ((X.getD i.val ln0).args.length =
  (lnArgs X j.val.fst).length ∧ ∀ (i_1 : Nat), i_1 < (lnArgs X j.val.fst).length → [AV.str ((X.getD i.val ln0).args.getD i_1 [])] = [AV.str ((lnArgs X j.val.fst).getD i_1 [])]) ∧
  (↑(X.getD i.val ln0).args.length : Int) = (↑(lnArgs X j.val.fst).length : Int) ∧ (0 : Int) = (↑j.val.snd : Int) ∧ (True ∧ True ∧ True) ∧ (True ∧ True ∧ True) ∧ ((X.getD i.val
  ln0).at_ = (X.getD j.val.fst ln0).at_ ∧ (X.getD i.val ln0).part = (X.getD j.val.fst ln0).part ∧ (X.getD i.val ln0).opd.name = (X.getD j.val.fst ln0).opd.name ∧ (X.getD i.val
  ln0).opd.kind = (X.getD j.val.fst ln0).opd.kind ∧ (X.getD i.val ln0).opd.ty.k = (X.getD j.val.fst ln0).opd.ty.k ∧ (X.getD i.val ln0).opd.ty.l = (X.getD j.val.fst ln0).opd.ty.l
  ∧ (X.getD i.val ln0).opd.ty.s = (X.getD j.val.fst ln0).opd.ty.s ∧ (X.getD i.val ln0).opd.n = (X.getD j.val.fst ln0).opd.n ∧ (X.getD i.val ln0).opd.v = (X.getD j.val.fst
  ln0).opd.v ∧ (X.getD i.val ln0).opd.base = (X.getD j.val.fst ln0).opd.base ∧ (X.getD i.val ln0).opd.off = (X.getD j.val.fst ln0).opd.off ∧ (X.getD i.val ln0).opd.tgt = (X.getD
  j.val.fst ln0).opd.tgt ∧ (X.getD i.val ln0).op = (X.getD j.val.fst ln0).op ∧ ((X.getD i.val ln0).args.length = (X.getD j.val.fst ln0).args.length ∧ ∀ (i_1 : Nat), i_1 < (X.getD
  j.val.fst ln0).args.length → [AV.str ((X.getD i.val ln0).args.getD i_1 [])] = [AV.str ((X.getD j.val.fst ln0).args.getD i_1 [])]) ∧ (X.getD i.val ln0).mon.fr = (X.getD
  j.val.fst ln0).mon.fr ∧ (X.getD i.val ln0).mon.to = (X.getD j.val.fst ln0).mon.to ∧ (X.getD i.val ln0).mon.ex = (X.getD j.val.fst ln0).mon.ex ∧ (X.getD i.val ln0).mon.hd =
  (X.getD j.val.fst ln0).mon.hd) ∧ ((X.getD i.val ln0).op = (X.getD j.val.fst ln0).op ∧ True) ∧ List.map cOpd (opsL X) = List.map cOpd (opsL X) ∧ List.map cIns (List.filterMap
  (lnIns (opsL X)) (List.take i.val X)) = List.map cIns (List.filterMap (lnIns (opsL X)) (List.take j.val.fst X)) ∧ List.map cMon (List.filterMap lnMon X) = List.map cMon
  (List.filterMap lnMon X) ∧ List.map cInt (List.map (named (opsL X)) (List.take j.val.snd (lnArgs X j.val.fst))) = [] ∧ True) ∧ ∀ (i_1 :
  { x : Nat × Nat // x.fst < X.length ∧ (X.getD x.fst ln0).part = (2 : Int) ∧ x.snd ≤ (lnArgs X x.fst).length }), key i_1.val.fst ((lnArgs X i_1.val.fst).length - i_1.val.snd) /
  (4294967296 : Nat) = key j.val.fst ((lnArgs X j.val.fst).length - j.val.snd) / (4294967296 : Nat) → (decide ((↑i_1.val.snd : Int) < (↑(lnArgs X i_1.val.fst).length : Int)) =
  true → Ob ((0 : Int) ≤ (↑i_1.val.snd : Int) ∧ (↑i_1.val.snd : Int) < (↑(lnArgs X i_1.val.fst).length : Int)) ∧ Ob (∃ (l : List Opd), eqv (slOpds l) (AV.sl false (10 : Nat)
  (List.map cOpd (opsL X)).length fun (i : Nat) => (List.map cOpd (opsL X)).getD i [])) ∧ (decide (named (opdsOf (AV.sl false (10 : Nat) (List.map cOpd (opsL X)).length fun (i :
  Nat) => (List.map cOpd (opsL X)).getD i [])) ((lnArgs X i_1.val.fst).getD i_1.val.snd []) < (0 : Int)) = true → ((prgOfLns X).ops.length = (0 : Nat) ∧ (prgOfLns X).ins.length =
  (0 : Nat) ∧ (prgOfLns X).mons.length = (0 : Nat)) ∧ (X.getD i_1.val.fst ln0).at_ = (0 : Int) ∧ (11 : Int) = (0 : Int)) ∧ (decide (named (opdsOf (AV.sl false (10 : Nat)
  (List.map cOpd (opsL X)).length fun (i : Nat) => (List.map cOpd (opsL X)).getD i [])) ((lnArgs X i_1.val.fst).getD i_1.val.snd []) < (0 : Int)) = false → Ob ((List.map cInt
  (List.map (named (opsL X)) (List.take i_1.val.snd (lnArgs X i_1.val.fst)))).length + (elsOf (1 : Nat) fun (i : Nat) => List.take (1 : Nat) (List.drop (i * (1 : Nat)) [AV.int
  IntKind.i64 (named (opdsOf (AV.sl false (10 : Nat) (List.map cOpd (opsL X)).length fun (i : Nat) => (List.map cOpd (opsL X)).getD i [])) ((lnArgs X i_1.val.fst).getD
  i_1.val.snd []))])).length ≤ (1048576 : Nat)) ∧ Ob (inI64 ((↑i_1.val.snd : Int) + (1 : Int))) ∧ ∃ (j_1 :
  { x : Nat × Nat // x.fst < X.length ∧ (X.getD x.fst ln0).part = (2 : Int) ∧ x.snd ≤ (lnArgs X x.fst).length }), key j_1.val.fst ((lnArgs X j_1.val.fst).length - j_1.val.snd) /
  (4294967296 : Nat) = key j.val.fst ((lnArgs X j.val.fst).length - j.val.snd) / (4294967296 : Nat) ∧ (key j_1.val.fst ((lnArgs X j_1.val.fst).length - j_1.val.snd)).succ.le (key
  i_1.val.fst ((lnArgs X i_1.val.fst).length - i_1.val.snd)) ∧ True ∧ True ∧ (X.length = X.length ∧ ∀ (i : Nat), i < X.length → cLn (X.getD i ln0) = cLn (X.getD i ln0)) ∧
  (↑X.length : Int) = (↑X.length : Int) ∧ (↑i_1.val.fst : Int) = (↑j_1.val.fst : Int) ∧ True ∧ True ∧ ((lnArgs X i_1.val.fst).length = (lnArgs X j_1.val.fst).length ∧ ∀ (i :
  Nat), i < (lnArgs X j_1.val.fst).length → [AV.str ((lnArgs X i_1.val.fst).getD i [])] = [AV.str ((lnArgs X j_1.val.fst).getD i [])]) ∧ (↑(lnArgs X i_1.val.fst).length : Int) =
  (↑(lnArgs X j_1.val.fst).length : Int) ∧ (↑i_1.val.snd : Int) + (1 : Int) = (↑j_1.val.snd : Int) ∧ (True ∧ True ∧ True) ∧ (True ∧ True ∧ True) ∧ ((X.getD i_1.val.fst ln0).at_ =
  (X.getD j_1.val.fst ln0).at_ ∧ (X.getD i_1.val.fst ln0).part = (X.getD j_1.val.fst ln0).part ∧ (X.getD i_1.val.fst ln0).opd.name = (X.getD j_1.val.fst ln0).opd.name ∧ (X.getD
  i_1.val.fst ln0).opd.kind = (X.getD j_1.val.fst ln0).opd.kind ∧ (X.getD i_1.val.fst ln0).opd.ty.k = (X.getD j_1.val.fst ln0).opd.ty.k ∧ (X.getD i_1.val.fst ln0).opd.ty.l =
  (X.getD j_1.val.fst ln0).opd.ty.l ∧ (X.getD i_1.val.fst ln0).opd.ty.s = (X.getD j_1.val.fst ln0).opd.ty.s ∧ (X.getD i_1.val.fst ln0).opd.n = (X.getD j_1.val.fst ln0).opd.n ∧
  (X.getD i_1.val.fst ln0).opd.v = (X.getD j_1.val.fst ln0).opd.v ∧ (X.getD i_1.val.fst ln0).opd.base = (X.getD j_1.val.fst ln0).opd.base ∧ (X.getD i_1.val.fst ln0).opd.off =
  (X.getD j_1.val.fst ln0).opd.off ∧ (X.getD i_1.val.fst ln0).opd.tgt = (X.getD j_1.val.fst ln0).opd.tgt ∧ (X.getD i_1.val.fst ln0).op = (X.getD j_1.val.fst ln0).op ∧ ((X.getD
  i_1.val.fst ln0).args.length = (X.getD j_1.val.fst ln0).args.length ∧ ∀ (i : Nat), i < (X.getD j_1.val.fst ln0).args.length → [AV.str ((X.getD i_1.val.fst ln0).args.getD i [])]
  = [AV.str ((X.getD j_1.val.fst ln0).args.getD i [])]) ∧ (X.getD i_1.val.fst ln0).mon.fr = (X.getD j_1.val.fst ln0).mon.fr ∧ (X.getD i_1.val.fst ln0).mon.to = (X.getD
  j_1.val.fst ln0).mon.to ∧ (X.getD i_1.val.fst ln0).mon.ex = (X.getD j_1.val.fst ln0).mon.ex ∧ (X.getD i_1.val.fst ln0).mon.hd = (X.getD j_1.val.fst ln0).mon.hd) ∧ ((X.getD
  i_1.val.fst ln0).op = (X.getD j_1.val.fst ln0).op ∧ True) ∧ List.map cOpd (opsL X) = List.map cOpd (opsL X) ∧ List.map cIns (List.filterMap (lnIns (opsL X)) (List.take
  i_1.val.fst X)) = List.map cIns (List.filterMap (lnIns (opsL X)) (List.take j_1.val.fst X)) ∧ List.map cMon (List.filterMap lnMon X) = List.map cMon (List.filterMap lnMon X) ∧
  (List.map cInt (List.map (named (opsL X)) (List.take i_1.val.snd (lnArgs X i_1.val.fst))) ++ elsOf (1 : Nat) fun (i : Nat) => List.take (1 : Nat) (List.drop (i * (1 : Nat))
  [AV.int IntKind.i64 (named (opdsOf (AV.sl false (10 : Nat) (List.map cOpd (opsL X)).length fun (i : Nat) => (List.map cOpd (opsL X)).getD i [])) ((lnArgs X i_1.val.fst).getD
  i_1.val.snd []))])) = List.map cInt (List.map (named (opsL X)) (List.take j_1.val.snd (lnArgs X j_1.val.fst))) ∧ True)) ∧ (decide ((↑i_1.val.snd : Int) < (↑(lnArgs X
  i_1.val.fst).length : Int)) = false → Ob (∀ (i : Nat), i < (List.map cInt (List.map (named (opsL X)) (List.take i_1.val.snd (lnArgs X i_1.val.fst)))).length → likes ((env m
  [((50 : Nat), Cnamed), ((31 : Nat), Ccheck)]).zero (3 : Nat)) ((List.map cInt (List.map (named (opsL X)) (List.take i_1.val.snd (lnArgs X i_1.val.fst)))).getD i []) = (List.map
  cInt (List.map (named (opsL X)) (List.take i_1.val.snd (lnArgs X i_1.val.fst)))).getD i []) ∧ Ob ((List.map cIns (List.filterMap (lnIns (opsL X)) (List.take i_1.val.fst
  X))).length + (elsOf (1 : Nat) fun (i : Nat) => List.take (2 : Nat) (List.drop (i * (2 : Nat)) [AV.int IntKind.i64 (X.getD i_1.val.fst ln0).op, AV.sl false (1 : Nat) (List.map
  cInt (List.map (named (opsL X)) (List.take i_1.val.snd (lnArgs X i_1.val.fst)))).length fun (i : Nat) => likes ((env m [((50 : Nat), Cnamed), ((31 : Nat), Ccheck)]).zero (3 :
  Nat)) ((List.map cInt (List.map (named (opsL X)) (List.take i_1.val.snd (lnArgs X i_1.val.fst)))).getD i [])])).length ≤ (1048576 : Nat)) ∧ Ob (inI64 ((↑i_1.val.fst : Int) + (1
  : Int))) ∧ ∃ (j : { i : Nat // i ≤ X.length }), (X.length - j.val).succ.le (X.length - i.val) ∧ True ∧ True ∧ (X.length = X.length ∧ ∀ (i : Nat), i < X.length → cLn (X.getD i
  ln0) = cLn (X.getD i ln0)) ∧ (↑X.length : Int) = (↑X.length : Int) ∧ (↑i_1.val.fst : Int) + (1 : Int) = (↑j.val : Int) ∧ (True ∧ True ∧ True) ∧ (True ∧ True ∧ True) ∧ List.map
  cOpd (opsL X) = List.map cOpd (opsL X) ∧ (List.map cIns (List.filterMap (lnIns (opsL X)) (List.take i_1.val.fst X)) ++ elsOf (1 : Nat) fun (i : Nat) => List.take (2 : Nat)
  (List.drop (i * (2 : Nat)) [AV.int IntKind.i64 (X.getD i_1.val.fst ln0).op, AV.sl false (1 : Nat) (List.map cInt (List.map (named (opsL X)) (List.take i_1.val.snd (lnArgs X
  i_1.val.fst)))).length fun (i : Nat) => likes ((env m [((50 : Nat), Cnamed), ((31 : Nat), Ccheck)]).zero (3 : Nat)) ((List.map cInt (List.map (named (opsL X)) (List.take
  i_1.val.snd (lnArgs X i_1.val.fst)))).getD i [])])) = List.map cIns (List.filterMap (lnIns (opsL X)) (List.take j.val X)) ∧ List.map cMon (List.filterMap lnMon X) = List.map
  cMon (List.filterMap lnMon X) ∧ True)))) ∧ (decide ((↑i.val : Int) < (↑X.length : Int)) = false → Ob (∃ (p : Prg), eqv (aPrg p) (AV.agg [AV.sl false (10 : Nat) (List.map cOpd
  (opsL X)).length fun (i : Nat) => (List.map cOpd (opsL X)).getD i [], AV.sl false (2 : Nat) (List.map cIns (List.filterMap (lnIns (opsL X)) (List.take i.val X))).length fun
  (i_1 : Nat) => (List.map cIns (List.filterMap (lnIns (opsL X)) (List.take i.val X))).getD i_1 [], AV.sl false (4 : Nat) (List.map cMon (List.filterMap lnMon X)).length fun (i :
  Nat) => (List.map cMon (List.filterMap lnMon X)).getD i []]) ∧ Valid p) ∧ ((!decide ((0 : Int) = (0 : Int))) = true → False) ∧ ((!decide ((0 : Int) = (0 : Int))) = false →
  (((List.map cOpd (opsL X)).length = (prgOfLns X).ops.length ∧ ∀ (i : Nat), i < (prgOfLns X).ops.length → (List.map cOpd (opsL X)).getD i [] = cOpd ((prgOfLns X).ops.getD i
  opd0)) ∧ ((List.map cIns (List.filterMap (lnIns (opsL X)) (List.take i.val X))).length = (prgOfLns X).ins.length ∧ ∀ (i_1 : Nat), i_1 < (prgOfLns X).ins.length → (List.map cIns
  (List.filterMap (lnIns (opsL X)) (List.take i.val X))).getD i_1 [] = cIns ((prgOfLns X).ins.getD i_1 ins0)) ∧ (List.map cMon (List.filterMap lnMon X)).length = (prgOfLns
  X).mons.length ∧ ∀ (i : Nat), i < (prgOfLns X).mons.length → (List.map cMon (List.filterMap lnMon X)).getD i [] = cMon ((prgOfLns X).mons.getD i mon0)) ∧ (0 : Int) = (0 : Int)
  ∧ (0 : Int) = (0 : Int))))) (by kernel_rfl) ?_⟩
    simp only [Ob_iff, inI64, decide_true, Bool.not_true, Bool.false_eq_true, false_implies, true_implies, true_and, and_true, implies_true, show ∀ f, (elsOf 1 f).length = 1 from fun f => rfl]
    have hlen := hV.len
    have hfl : ∀ {α : Type} (f : Ln → Option α) (i : Nat), i ≤ X.length → ((X.take i).filterMap f).length ≤ 10000 := fun f i hi => by
      have := List.length_filterMap_le f (X.take i)
      rw [List.length_take] at this
      omega
    have hins : ∀ i, i < X.length → (X.getD i ln0).part = 2 → (⟨(X.getD i ln0).op, (X.getD i ln0).args.map (named (opsL X))⟩ : Ins) ∈ (prgOfLns X).ins := fun i hi hp2 =>
      List.mem_filterMap.2 ⟨_, getD_mem hi, by unfold lnIns; rw [if_pos hp2]; rfl⟩
    have hal : ∀ i, i < X.length → (X.getD i ln0).part = 2 → (lnArgs X i).length ≤ 3 := fun i hi hp2 => by
      have := args_len (hV.valid.ins _ (hins i hi hp2))
      rw [List.length_map] at this
      exact this
    have z3 : ∀ Γ, (env m Γ).zero 3 = [AV.int .i64 0] := fun Γ => zero_three m Γ
    simp only [z3]
    refine And.intro ⟨⟨(0, [], [], []), Nat.zero_le _, Nat.zero_le _, Nat.zero_le _, Nat.zero_le _⟩, rfl, rfl, rfl, rfl, rfl, rfl⟩ ?_
    rintro ⟨⟨i, l1, l2, l3⟩, hi, g1, g2, g3⟩
    dsimp only at hi g1 g2 g3 ⊢
    refine And.intro (fun h => ?_) (fun h => ?_)
    · have h' := lt_of_dec h
      have hpt := hV.part _ (getD_mem (d := ln0) h')
      have f1 := hfl lnOpd i hi
      have f2 := hfl lnMon i hi
      have s1 := fm_step lnOpd h'
      have s2 := fm_step lnMon h'
      refine And.intro ⟨by omega, by omega⟩ (And.intro ⟨by omega, by show _ < (4 : Int); omega⟩ ?_)
      rcases hpt with hp1 | hp1 | hp1
      · rw [show lnOpd (X.getD i ln0) = some (X.getD i ln0).opd from by unfold lnOpd; rw [if_pos hp1]] at s1
        rw [show lnMon (X.getD i ln0) = none from by unfold lnMon; rw [if_neg (by omega)]] at s2
        simp only [hp1, dec13, dec12, dec11, dec10, dec13', dec11', decide_true, Bool.false_eq_true, Bool.true_eq_false, false_implies, true_implies, true_and, and_true, List.length_map]
        refine ⟨by omega, ⟨by decide, by decide⟩, by omega, ⟨by omega, by omega⟩, ⟨(i + 1, l1 ++ [(X.getD i ln0).at_], l2, l3), h', by simp; omega, by dsimp only; omega, by dsimp only; omega⟩, sub_step h', rfl, ?_, ?_, ?_, rfl, rfl⟩
        · dsimp only; rw [s1, List.map_append]; rfl
        · dsimp only; rw [s2]; simp
        · dsimp only; rw [List.map_append]; rfl
      · rw [show lnOpd (X.getD i ln0) = none from by unfold lnOpd; rw [if_neg (by omega)]] at s1
        rw [show lnMon (X.getD i ln0) = none from by unfold lnMon; rw [if_neg (by omega)]] at s2
        simp only [hp1, dec23, dec22, dec21, dec20, dec23', dec21', decide_true, Bool.false_eq_true, Bool.true_eq_false, false_implies, true_implies, true_and, and_true, List.length_map]
        refine ⟨by omega, ⟨by decide, by decide⟩, ⟨by omega, by omega⟩, ⟨(i + 1, l1, l2 ++ [(X.getD i ln0).at_], l3), h', by dsimp only; omega, by simp; omega, by dsimp only; omega⟩, sub_step h', rfl, ?_, ?_, rfl, ?_, rfl⟩
        · dsimp only; rw [s1]; simp
        · dsimp only; rw [s2]; simp
        · dsimp only; rw [List.map_append]; rfl
      · rw [show lnOpd (X.getD i ln0) = none from by unfold lnOpd; rw [if_neg (by omega)]] at s1
        rw [show lnMon (X.getD i ln0) = some (X.getD i ln0).mon from by unfold lnMon; rw [if_pos hp1]] at s2
        simp only [hp1, dec33, dec32, dec31, dec30, dec33', dec31', decide_true, Bool.false_eq_true, Bool.true_eq_false, false_implies, true_implies, true_and, and_true, List.length_map]
        refine ⟨by omega, ⟨by decide, by decide⟩, by omega, ⟨by omega, by omega⟩, ⟨(i + 1, l1, l2, l3 ++ [(X.getD i ln0).at_]), h', by dsimp only; omega, by dsimp only; omega, by simp; omega⟩, sub_step h', rfl, ?_, ?_, rfl, rfl, ?_⟩
        · dsimp only; rw [s1]; simp
        · dsimp only; rw [s2, List.map_append]; rfl
        · dsimp only; rw [List.map_append]; rfl
    · have := ge_of_dec h hi
      subst this
      rw [List.take_length]
      clear h hi g1 g2 g3 l1 l2 l3
      refine And.intro ⟨⟨0, Nat.zero_le _⟩, rfl, rfl, rfl, rfl⟩ ?_
      rintro ⟨i, hi⟩
      dsimp only
      refine And.intro (fun h => ?_) (fun h => ?_)
      · have h' := lt_of_dec h
        have s3 := fm_step (lnIns (opsL X)) h'
        refine And.intro ⟨by omega, by omega⟩ (And.intro (fun h2 => ?_) (fun h2 => ?_))
        · have h2 : ¬ (X.getD i ln0).part = 2 := by simpa using h2
          refine ⟨⟨by omega, by omega⟩, ⟨i + 1, h'⟩, sub_step h', rfl, ?_⟩
          dsimp only
          rw [s3, show lnIns (opsL X) (X.getD i ln0) = none from by unfold lnIns; rw [if_neg h2]]
          simp
        · have h2 : (X.getD i ln0).part = 2 := by simpa using h2
          obtain ⟨⟨o0, o1⟩, o2, o3⟩ := insRight (hV.valid.ins _ (hins i h' h2))
          dsimp only at o0 o1 o2 o3
          rw [List.length_map] at o2 o3
          have hop : (((X.getD i ln0).op.toNat : Nat) : Int) = (X.getD i ln0).op := by omega
          refine And.intro ⟨o0, by show _ < (19 : Int); omega⟩ (And.intro (fun h3 => ?_) (fun h3 => ?_))
          · rw [hop, o2] at h3
            simp at h3
          · refine ⟨⟨(i, 0), h', h2, Nat.zero_le _⟩, ⟨rfl, ⟨rfl, fun _ _ => rfl⟩, rfl, rfl, ⟨rfl, rfl, rfl, rfl, rfl, rfl, rfl, rfl, rfl, rfl, rfl, rfl, rfl, ⟨rfl, fun _ _ => rfl⟩, rfl, rfl, rfl, rfl⟩, rfl, rfl, rfl⟩, ?_⟩
            rintro ⟨⟨i2, k⟩, hi2, hp2, hk⟩ hkey
            dsimp only at hi2 hp2 hk hkey ⊢
            have ha1 := hal i h' h2
            have ha2 := hal i2 hi2 hp2
            rw [key_div (by omega), key_div (by omega)] at hkey
            subst hkey
            rw [show (AV.sl false 10 (List.map cOpd (opsL X)).length fun i => (List.map cOpd (opsL X)).getD i []) = asSl 10 (List.map cOpd (opsL X)) from rfl, opds_eqv (opds_as _)]
            refine And.intro (fun h4 => ?_) (fun h4 => ?_)
            · have h4' := lt_of_dec h4
              have hnn : 0 ≤ named (opsL X) ((lnArgs X i2).getD k []) := by
                have : 0 ≤ (List.map (named (opsL X)) (lnArgs X i2)).getD k 0 := (o3 k h4').1.1
                rw [getD_map2 (d := ([] : Str)) h4'] at this
                exact this
              have k1 : key i2 ((lnArgs X i2).length - (k + 1)) / 4294967296 = key i2 ((lnArgs X i2).length - 0) / 4294967296 := by rw [key_div (by omega), key_div (by omega)]
              have k2 : key i2 ((lnArgs X i2).length - (k + 1)) < key i2 ((lnArgs X i2).length - k) := by unfold key; omega
              refine ⟨⟨by omega, by omega⟩, ⟨_, opds_as _⟩, fun h5 => absurd (of_decide_eq_true h5) (by omega), fun h5 => ⟨?_, ⟨by omega, by omega⟩, ⟨(i2, k + 1), h', h2, h4'⟩, k1, k2, rfl, ⟨rfl, fun _ _ => rfl⟩, rfl, rfl, ⟨rfl, rfl, rfl, rfl, rfl, rfl, rfl, rfl, rfl, rfl, rfl, rfl, rfl, ⟨rfl, fun _ _ => rfl⟩, rfl, rfl, rfl, rfl⟩, rfl, rfl, ?_⟩⟩
              · rw [List.length_map, List.length_map, List.length_take]; omega
              · dsimp only
                rw [← take_step (named (opsL X)) [] h4', List.map_append]
                rfl
            · have := ge_of_dec h4 hk
              subst this
              rw [List.take_length, slIntsC]
              have f3 := hfl (lnIns (opsL X)) i2 hi
              refine ⟨fun i hi => ?_, by rw [List.length_map]; omega, ⟨by omega, by omega⟩, ⟨i2 + 1, h'⟩, sub_step h', rfl, ?_⟩
              · rw [List.length_map] at hi
                rw [row_get hi]
                rfl
              · dsimp only
                rw [s3, show lnIns (opsL X) (X.getD i2 ln0) = some ⟨(X.getD i2 ln0).op, (lnArgs X i2).map (named (opsL X))⟩ from by unfold lnIns; rw [if_pos h2]; rfl, List.map_append]
                rfl
      · have := ge_of_dec h hi
        subst this
        rw [List.take_length]
        refine ⟨⟨prgOfLns X, ⟨⟨by simp [prgOfLns, opsL], fun i hi => map_getD cOpd opd0 hi⟩, ⟨by simp [prgOfLns, opsL], fun i hi => map_getD cIns ins0 hi⟩, by simp [prgOfLns], fun i hi => map_getD cMon mon0 hi⟩, hV.valid⟩, ⟨by simp [prgOfLns, opsL], fun i hi => map_getD cOpd opd0 hi⟩, ⟨by simp [prgOfLns, opsL], fun i hi => map_getD cIns ins0 hi⟩, by simp [prgOfLns], fun i hi => map_getD cMon mon0 hi⟩
  · exact (Tr.run_fail hr).elim
noncomputable def inv10 (s : Str) : Eng.Inv :=
  ⟨{ x : Nat × Int × List Ln // x.1 ≤ s.length ∧ x.2.2.length ≤ x.1 ∧ ∃ f, (s.drop x.1).length ≤ f ∧ scan s.length 0 1 s = ((scan f x.1 x.2.1 (s.drop x.1)).1, x.2.2 ++ (scan f x.1 x.2.1 (s.drop x.1)).2) },
    fun x => [(0, .str s), (2, .ptr 2 0), (5, .row 80), (6, I x.1.1), (7, I x.1.2.1)], fun x => [(2, box3), (80, .row 69 18 (x.1.2.2.map cLn) false)], fun x => s.length - x.1.1⟩
noncomputable def Cparse : Con
  | [.str s] => .need (s.length ≤ 9000 ∧ (s.length ≤ 6000 → (scan s.length 0 1 s).1 = none → PrgLns (scan s.length 0 1 s).2)) (.ret (.tup [aPrg (parseOf s).1, .int .i64 (parseOf s).2.1, .int .i64 (parseOf s).2.2]))
  | _ => .fail
theorem ok10 : Ok m 10 Cparse := fn_ok2 (cons_cons ok23 (cons_cons ok24 (cons_cons ok25 (cons_cons ok26 cons_nil)))) Tryz.func10 (by kernel_rfl) fun xs r hr hp => by
  unfold Cparse at hr
  split at hr
  · rename_i s
    obtain ⟨⟨hs, hg⟩, hr⟩ := Tr.run_need hr
    have e := Tr.run_ret hr
    subst e
    clear hr hp
    refine ⟨_, [(0, inv10 s)], args_self _, of_nice ((decide ((6000 : Int) < (↑(List.length s) : Int)) = true → ((parseOf s).fst.ops.length = (0 : Nat) ∧ (parseOf s).fst.ins.length = (0 : Nat) ∧ (parseOf s).fst.mons.length = (0 :
  Nat)) ∧ (0 : Int) = (parseOf s).snd.fst ∧ (2 : Int) = (parseOf s).snd.snd) ∧ (decide ((6000 : Int) < (↑(List.length s) : Int)) = false → (∃ (j :
  { x : Nat × Int × List Ln // x.fst ≤ List.length s ∧ x.snd.snd.length ≤ x.fst ∧ ∃ (f : Nat), (List.drop x.fst s).length ≤ f ∧ scan (List.length s) (0 : Nat) (1 : Int) s = ((scan f x.fst x.snd.fst (List.drop x.fst s)).fst, x.snd.snd ++ (scan f x.fst x.snd.fst (List.drop x.fst s)).snd) }),
  s = s ∧ True ∧ True ∧ (0 : Int) = (↑j.val.fst : Int) ∧ (1 : Int) = j.val.snd.fst ∧ (True ∧ True ∧ True) ∧ List.map cLn j.val.snd.snd = [] ∧ True) ∧ ∀ (i :
  { x : Nat × Int × List Ln // x.fst ≤ List.length s ∧ x.snd.snd.length ≤ x.fst ∧ ∃ (f : Nat), (List.drop x.fst s).length ≤ f ∧ scan (List.length s) (0 : Nat) (1 : Int) s = ((scan f x.fst x.snd.fst (List.drop x.fst s)).fst, x.snd.snd ++ (scan f x.fst x.snd.fst (List.drop x.fst s)).snd) }),
  (decide ((↑i.val.fst : Int) < (↑(List.length s) : Int)) = true → Ob ((0 : Int) ≤ (↑i.val.fst : Int) ∧ (↑i.val.fst : Int) ≤ (↑(List.length s) : Int)) ∧ Ob ((List.take
  (List.length s - i.val.fst) (List.drop i.val.fst s)).length < (4294967281 : Nat)) ∧ Ob (inI64 ((↑i.val.fst : Int) + (↑(Lib.cut (List.take (List.length s - i.val.fst) (List.drop
  i.val.fst s)) [(59 : UInt8), (10 : UInt8)]).fst.length : Int))) ∧ Ob ((0 : Int) ≤ (↑i.val.fst : Int) + (↑(Lib.cut (List.take (List.length s - i.val.fst) (List.drop i.val.fst
  s)) [(59 : UInt8), (10 : UInt8)]).fst.length : Int) ∧ (↑i.val.fst : Int) + (↑(Lib.cut (List.take (List.length s - i.val.fst) (List.drop i.val.fst s)) [(59 : UInt8), (10 :
  UInt8)]).fst.length : Int) ≤ (↑(List.length s) : Int)) ∧ Ob ((Lib.cut (List.take (List.length s - i.val.fst) (List.drop i.val.fst s)) [(59 : UInt8), (10 : UInt8)]).fst.length ≤
  (10000 : Nat)) ∧ ((!(readLine (Lib.cut (List.take (List.length s - i.val.fst) (List.drop i.val.fst s)) [(59 : UInt8), (10 : UInt8)]).fst).snd || !Lib.hasPrefix (List.take
  (List.length s - ((↑i.val.fst : Int) + (↑(Lib.cut (List.take (List.length s - i.val.fst) (List.drop i.val.fst s)) [(59 : UInt8), (10 : UInt8)]).fst.length : Int)).toNat)
  (List.drop ((↑i.val.fst : Int) + (↑(Lib.cut (List.take (List.length s - i.val.fst) (List.drop i.val.fst s)) [(59 : UInt8), (10 : UInt8)]).fst.length : Int)).toNat s)) [(59 :
  UInt8), (10 : UInt8)] || decide ((readLine (Lib.cut (List.take (List.length s - i.val.fst) (List.drop i.val.fst s)) [(59 : UInt8), (10 : UInt8)]).fst).fst.part <
  i.val.snd.fst)) = true → ((parseOf s).fst.ops.length = (0 : Nat) ∧ (parseOf s).fst.ins.length = (0 : Nat) ∧ (parseOf s).fst.mons.length = (0 : Nat)) ∧ (↑i.val.fst : Int) =
  (parseOf s).snd.fst ∧ (8 : Int) = (parseOf s).snd.snd) ∧ ((!(readLine (Lib.cut (List.take (List.length s - i.val.fst) (List.drop i.val.fst s)) [(59 : UInt8), (10 :
  UInt8)]).fst).snd || !Lib.hasPrefix (List.take (List.length s - ((↑i.val.fst : Int) + (↑(Lib.cut (List.take (List.length s - i.val.fst) (List.drop i.val.fst s)) [(59 : UInt8),
  (10 : UInt8)]).fst.length : Int)).toNat) (List.drop ((↑i.val.fst : Int) + (↑(Lib.cut (List.take (List.length s - i.val.fst) (List.drop i.val.fst s)) [(59 : UInt8), (10 :
  UInt8)]).fst.length : Int)).toNat s)) [(59 : UInt8), (10 : UInt8)] || decide ((readLine (Lib.cut (List.take (List.length s - i.val.fst) (List.drop i.val.fst s)) [(59 : UInt8),
  (10 : UInt8)]).fst).fst.part < i.val.snd.fst)) = false → Ob ((List.map cLn i.val.snd.snd).length + (elsOf (1 : Nat) fun (i_1 : Nat) => List.take (18 : Nat) (List.drop (i_1 *
  (18 : Nat)) [AV.int IntKind.i64 (↑i.val.fst : Int), AV.int IntKind.i64 (readLine (Lib.cut (List.take (List.length s - i.val.fst) (List.drop i.val.fst s)) [(59 : UInt8), (10 :
  UInt8)]).fst).fst.part, AV.str (readLine (Lib.cut (List.take (List.length s - i.val.fst) (List.drop i.val.fst s)) [(59 : UInt8), (10 : UInt8)]).fst).fst.opd.name, AV.int
  IntKind.i64 (readLine (Lib.cut (List.take (List.length s - i.val.fst) (List.drop i.val.fst s)) [(59 : UInt8), (10 : UInt8)]).fst).fst.opd.kind, AV.int IntKind.i64 (readLine
  (Lib.cut (List.take (List.length s - i.val.fst) (List.drop i.val.fst s)) [(59 : UInt8), (10 : UInt8)]).fst).fst.opd.ty.k, AV.int IntKind.i64 (readLine (Lib.cut (List.take
  (List.length s - i.val.fst) (List.drop i.val.fst s)) [(59 : UInt8), (10 : UInt8)]).fst).fst.opd.ty.l, AV.int IntKind.i64 (readLine (Lib.cut (List.take (List.length s -
  i.val.fst) (List.drop i.val.fst s)) [(59 : UInt8), (10 : UInt8)]).fst).fst.opd.ty.s, AV.int IntKind.i64 (readLine (Lib.cut (List.take (List.length s - i.val.fst) (List.drop
  i.val.fst s)) [(59 : UInt8), (10 : UInt8)]).fst).fst.opd.n, AV.str (readLine (Lib.cut (List.take (List.length s - i.val.fst) (List.drop i.val.fst s)) [(59 : UInt8), (10 :
  UInt8)]).fst).fst.opd.v, AV.str (readLine (Lib.cut (List.take (List.length s - i.val.fst) (List.drop i.val.fst s)) [(59 : UInt8), (10 : UInt8)]).fst).fst.opd.base, AV.int
  IntKind.i64 (readLine (Lib.cut (List.take (List.length s - i.val.fst) (List.drop i.val.fst s)) [(59 : UInt8), (10 : UInt8)]).fst).fst.opd.off, AV.int IntKind.i64 (readLine
  (Lib.cut (List.take (List.length s - i.val.fst) (List.drop i.val.fst s)) [(59 : UInt8), (10 : UInt8)]).fst).fst.opd.tgt, AV.int IntKind.i64 (readLine (Lib.cut (List.take
  (List.length s - i.val.fst) (List.drop i.val.fst s)) [(59 : UInt8), (10 : UInt8)]).fst).fst.op, slStrs (readLine (Lib.cut (List.take (List.length s - i.val.fst) (List.drop
  i.val.fst s)) [(59 : UInt8), (10 : UInt8)]).fst).fst.args, AV.int IntKind.i64 (readLine (Lib.cut (List.take (List.length s - i.val.fst) (List.drop i.val.fst s)) [(59 : UInt8),
  (10 : UInt8)]).fst).fst.mon.fr, AV.int IntKind.i64 (readLine (Lib.cut (List.take (List.length s - i.val.fst) (List.drop i.val.fst s)) [(59 : UInt8), (10 :
  UInt8)]).fst).fst.mon.to, AV.int IntKind.i64 (readLine (Lib.cut (List.take (List.length s - i.val.fst) (List.drop i.val.fst s)) [(59 : UInt8), (10 : UInt8)]).fst).fst.mon.ex,
  AV.int IntKind.i64 (readLine (Lib.cut (List.take (List.length s - i.val.fst) (List.drop i.val.fst s)) [(59 : UInt8), (10 : UInt8)]).fst).fst.mon.hd])).length ≤ (1048576 : Nat))
  ∧ Ob (inI64 ((↑(Lib.cut (List.take (List.length s - i.val.fst) (List.drop i.val.fst s)) [(59 : UInt8), (10 : UInt8)]).fst.length : Int) + (2 : Int))) ∧ Ob (inI64 ((↑i.val.fst :
  Int) + ((↑(Lib.cut (List.take (List.length s - i.val.fst) (List.drop i.val.fst s)) [(59 : UInt8), (10 : UInt8)]).fst.length : Int) + (2 : Int)))) ∧ ∃ (j :
  { x : Nat × Int × List Ln // x.fst ≤ List.length s ∧ x.snd.snd.length ≤ x.fst ∧ ∃ (f : Nat), (List.drop x.fst s).length ≤ f ∧ scan (List.length s) (0 : Nat) (1 : Int) s = ((scan f x.fst x.snd.fst (List.drop x.fst s)).fst, x.snd.snd ++ (scan f x.fst x.snd.fst (List.drop x.fst s)).snd) }),
  (List.length s - j.val.fst).succ.le (List.length s - i.val.fst) ∧ s = s ∧ True ∧ True ∧ (↑i.val.fst : Int) + ((↑(Lib.cut (List.take (List.length s - i.val.fst) (List.drop
  i.val.fst s)) [(59 : UInt8), (10 : UInt8)]).fst.length : Int) + (2 : Int)) = (↑j.val.fst : Int) ∧ (readLine (Lib.cut (List.take (List.length s - i.val.fst) (List.drop i.val.fst
  s)) [(59 : UInt8), (10 : UInt8)]).fst).fst.part = j.val.snd.fst ∧ (True ∧ True ∧ True) ∧ (List.map cLn i.val.snd.snd ++ elsOf (1 : Nat) fun (i_1 : Nat) => List.take (18 : Nat)
  (List.drop (i_1 * (18 : Nat)) [AV.int IntKind.i64 (↑i.val.fst : Int), AV.int IntKind.i64 (readLine (Lib.cut (List.take (List.length s - i.val.fst) (List.drop i.val.fst s)) [(59
  : UInt8), (10 : UInt8)]).fst).fst.part, AV.str (readLine (Lib.cut (List.take (List.length s - i.val.fst) (List.drop i.val.fst s)) [(59 : UInt8), (10 :
  UInt8)]).fst).fst.opd.name, AV.int IntKind.i64 (readLine (Lib.cut (List.take (List.length s - i.val.fst) (List.drop i.val.fst s)) [(59 : UInt8), (10 :
  UInt8)]).fst).fst.opd.kind, AV.int IntKind.i64 (readLine (Lib.cut (List.take (List.length s - i.val.fst) (List.drop i.val.fst s)) [(59 : UInt8), (10 :
  UInt8)]).fst).fst.opd.ty.k, AV.int IntKind.i64 (readLine (Lib.cut (List.take (List.length s - i.val.fst) (List.drop i.val.fst s)) [(59 : UInt8), (10 :
  UInt8)]).fst).fst.opd.ty.l, AV.int IntKind.i64 (readLine (Lib.cut (List.take (List.length s - i.val.fst) (List.drop i.val.fst s)) [(59 : UInt8), (10 :
  UInt8)]).fst).fst.opd.ty.s, AV.int IntKind.i64 (readLine (Lib.cut (List.take (List.length s - i.val.fst) (List.drop i.val.fst s)) [(59 : UInt8), (10 : UInt8)]).fst).fst.opd.n,
  AV.str (readLine (Lib.cut (List.take (List.length s - i.val.fst) (List.drop i.val.fst s)) [(59 : UInt8), (10 : UInt8)]).fst).fst.opd.v, AV.str (readLine (Lib.cut (List.take
  (List.length s - i.val.fst) (List.drop i.val.fst s)) [(59 : UInt8), (10 : UInt8)]).fst).fst.opd.base, AV.int IntKind.i64 (readLine (Lib.cut (List.take (List.length s -
  i.val.fst) (List.drop i.val.fst s)) [(59 : UInt8), (10 : UInt8)]).fst).fst.opd.off, AV.int IntKind.i64 (readLine (Lib.cut (List.take (List.length s - i.val.fst) (List.drop
  i.val.fst s)) [(59 : UInt8), (10 : UInt8)]).fst).fst.opd.tgt, AV.int IntKind.i64 (readLine (Lib.cut (List.take (List.length s - i.val.fst) (List.drop i.val.fst s)) [(59 :
  UInt8), (10 : UInt8)]).fst).fst.op, slStrs (readLine (Lib.cut (List.take (List.length s - i.val.fst) (List.drop i.val.fst s)) [(59 : UInt8), (10 : UInt8)]).fst).fst.args,
  AV.int IntKind.i64 (readLine (Lib.cut (List.take (List.length s - i.val.fst) (List.drop i.val.fst s)) [(59 : UInt8), (10 : UInt8)]).fst).fst.mon.fr, AV.int IntKind.i64
  (readLine (Lib.cut (List.take (List.length s - i.val.fst) (List.drop i.val.fst s)) [(59 : UInt8), (10 : UInt8)]).fst).fst.mon.to, AV.int IntKind.i64 (readLine (Lib.cut
  (List.take (List.length s - i.val.fst) (List.drop i.val.fst s)) [(59 : UInt8), (10 : UInt8)]).fst).fst.mon.ex, AV.int IntKind.i64 (readLine (Lib.cut (List.take (List.length s -
  i.val.fst) (List.drop i.val.fst s)) [(59 : UInt8), (10 : UInt8)]).fst).fst.mon.hd])) = List.map cLn j.val.snd.snd ∧ True)) ∧ (decide ((↑i.val.fst : Int) < (↑(List.length s) :
  Int)) = false → Ob (∃ (X : List Ln), eqv (slLns X) (AV.sl false (18 : Nat) (List.map cLn i.val.snd.snd).length fun (i_1 : Nat) => (List.map cLn i.val.snd.snd).getD i_1 []) ∧
  PrgLns X) ∧ (((prgOfLns (lnsOf (AV.sl false (18 : Nat) (List.map cLn i.val.snd.snd).length fun (i_1 : Nat) => (List.map cLn i.val.snd.snd).getD i_1 []))).ops.length = (parseOf
  s).fst.ops.length ∧ ∀ (i_1 : Nat), i_1 < (parseOf s).fst.ops.length → cOpd ((prgOfLns (lnsOf (AV.sl false (18 : Nat) (List.map cLn i.val.snd.snd).length fun (i_2 : Nat) =>
  (List.map cLn i.val.snd.snd).getD i_2 []))).ops.getD i_1 opd0) = cOpd ((parseOf s).fst.ops.getD i_1 opd0)) ∧ ((prgOfLns (lnsOf (AV.sl false (18 : Nat) (List.map cLn
  i.val.snd.snd).length fun (i_1 : Nat) => (List.map cLn i.val.snd.snd).getD i_1 []))).ins.length = (parseOf s).fst.ins.length ∧ ∀ (i_1 : Nat), i_1 < (parseOf s).fst.ins.length →
  cIns ((prgOfLns (lnsOf (AV.sl false (18 : Nat) (List.map cLn i.val.snd.snd).length fun (i_2 : Nat) => (List.map cLn i.val.snd.snd).getD i_2 []))).ins.getD i_1 ins0) = cIns
  ((parseOf s).fst.ins.getD i_1 ins0)) ∧ (prgOfLns (lnsOf (AV.sl false (18 : Nat) (List.map cLn i.val.snd.snd).length fun (i_1 : Nat) => (List.map cLn i.val.snd.snd).getD i_1
  []))).mons.length = (parseOf s).fst.mons.length ∧ ∀ (i_1 : Nat), i_1 < (parseOf s).fst.mons.length → cMon ((prgOfLns (lnsOf (AV.sl false (18 : Nat) (List.map cLn
  i.val.snd.snd).length fun (i_2 : Nat) => (List.map cLn i.val.snd.snd).getD i_2 []))).mons.getD i_1 mon0) = cMon ((parseOf s).fst.mons.getD i_1 mon0)) ∧ (0 : Int) = (parseOf
  s).snd.fst ∧ (0 : Int) = (parseOf s).snd.snd))) (by kernel_rfl) ?_⟩
    simp only [Ob_iff, inI64, decide_true, Bool.not_true, Bool.false_eq_true, false_implies, true_implies, true_and, and_true, implies_true, show ∀ f, (elsOf 1 f).length = 1 from fun f => rfl]
    rw [show ([59, 10] : Str) = sEnd from rfl]
    refine And.intro (fun h => ?_) (fun h => And.intro ⟨⟨(0, 1, []), Nat.zero_le _, Nat.le_refl _, s.length, by simp, by simp⟩, rfl, rfl, rfl⟩ ?_)
    · have h : 6000 < s.length := by have := of_decide_eq_true h; omega
      unfold parseOf
      rw [if_pos h]
      exact ⟨⟨rfl, rfl, rfl⟩, rfl, rfl⟩
    · have h : ¬ 6000 < s.length := by have := of_decide_eq_false h; omega
      have hg := hg (by omega)
      have hP1 : ∀ a, (scan s.length 0 1 s).1 = some a → parseOf s = (prg0, (a : Int), 8) := fun a e => by unfold parseOf; rw [if_neg h, e]
      have hP2 : (scan s.length 0 1 s).1 = none → parseOf s = (prgOfLns (scan s.length 0 1 s).2, 0, 0) := fun e => by unfold parseOf; rw [if_neg h, e]
      rintro ⟨⟨a, part, acc⟩, ha, hacc, f, hf, hsc⟩
      dsimp only at ha hacc hf hsc ⊢
      rw [List.take_of_length_le (l := List.drop a s) (by simp)]
      refine And.intro (fun h2 => ?_) (fun h2 => ?_)
      · have h2 := lt_of_dec h2
        have hc := (cut_le (s.drop a) sEnd).1
        rw [List.length_drop] at hc
        have hne : s.drop a ≠ [] := fun e => by
          have := congrArg List.length e
          simp at this
          omega
        rw [List.length_drop] at hf
        obtain ⟨f', rfl⟩ : ∃ f', f = f' + 1 := ⟨f - 1, by omega⟩
        rw [scan, if_neg hne] at hsc
        generalize (Lib.cut (s.drop a) sEnd).1 = c at *
        rw [show ((a : Int) + (c.length : Int)).toNat = a + c.length by omega, List.take_of_length_le (l := List.drop (a + c.length) s) (by simp), ← List.drop_drop]
        refine ⟨⟨by omega, by omega⟩, by rw [List.length_drop]; omega, ⟨by omega, by omega⟩, ⟨by omega, by omega⟩, by omega, fun h3 => ?_, fun h3 => ?_⟩
        · have hb : (readLine c).2 = false ∨ Lib.hasPrefix ((s.drop a).drop c.length) sEnd = false ∨ (readLine c).1.part < part := by
            simp only [Bool.or_eq_true, Bool.not_eq_true', decide_eq_true_eq] at h3
            rcases h3 with (h3 | h3) | h3
            · exact .inl h3
            · exact .inr (.inl h3)
            · exact .inr (.inr h3)
          rw [if_pos hb] at hsc
          rw [hP1 a (by rw [hsc])]
          exact ⟨⟨rfl, rfl, rfl⟩, rfl, rfl⟩
        · simp only [Bool.or_eq_false_iff, Bool.not_eq_false', decide_eq_false_iff_not] at h3
          obtain ⟨⟨h31, h32⟩, h33⟩ := h3
          have hb : ¬ ((readLine c).2 = false ∨ Lib.hasPrefix ((s.drop a).drop c.length) sEnd = false ∨ (readLine c).1.part < part) := by
            rintro (e | e | e)
            · rw [h31] at e; cases e
            · rw [h32] at e; cases e
            · exact h33 e
          rw [if_neg hb] at hsc
          have hroom : a + c.length + 2 ≤ s.length := by
            have := (List.isPrefixOf_iff_prefix.1 h32).length_le
            rw [List.length_drop, List.length_drop] at this
            have h4 : sEnd.length = 2 := rfl
            omega
          refine ⟨by rw [List.length_map]; omega, ⟨by omega, by omega⟩, ⟨by omega, by omega⟩, ⟨(a + c.length + 2, (readLine c).1.part, acc ++ [{ (readLine c).1 with at_ := (a : Int) }]), by omega, by simp; omega, f', ?_, ?_⟩, ?_, ?_, rfl, ?_⟩
          · rw [List.length_drop]; omega
          · dsimp only
            rw [hsc, List.drop_drop, Nat.add_assoc a c.length 2, List.append_assoc]
            rfl
          · show s.length - (a + c.length + 2) < s.length - a
            omega
          · dsimp only
            omega
          · dsimp only
            rw [List.map_append]
            rfl
      · have := ge_of_dec h2 ha
        subst this
        rw [List.drop_length, show scan f s.length part [] = (none, []) from by cases f <;> simp [scan], List.append_nil] at hsc
        have hP := hP2 (by rw [hsc])
        have hv := hg (by rw [hsc])
        rw [hsc] at hP hv
        dsimp only at hP hv
        rw [show (AV.sl false 18 (List.map cLn acc).length fun i => (List.map cLn acc).getD i []) = asSl 18 (List.map cLn acc) from rfl, lns_eqv (lns_as acc), hP]
        exact ⟨⟨acc, lns_as acc, hv⟩, ⟨⟨rfl, fun _ _ => rfl⟩, ⟨rfl, fun _ _ => rfl⟩, rfl, fun _ _ => rfl⟩, rfl, rfl⟩
  · exact (Tr.run_fail hr).elim
end Go.Proofs.YtgcnbicoajjlaaaGreatDoor
end
