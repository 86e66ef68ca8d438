/-
What is proved: 'midrangetop.TopTextsRefused' returns true for every input, and its arguments read behind the call as they read before (the tied card of the statement 'TopTextsRefused').
  Its conditions: the row's own: the ten listed package-level variables start as the program's text lays them (the card ties them to that text); nothing else is asked.
  Part 9 of 15.
-/
import Derived.Test.YtgcnbicoajjlaaaGreatDoorA8
set_option linter.unusedSectionVars false
set_option linter.unusedVariables false
set_option linter.unusedSimpArgs false
section
set_option linter.unusedVariables false
set_option linter.unusedSimpArgs false
set_option maxRecDepth 100000
namespace Go.Proofs.YtgcnbicoajjlaaaGreatDoor
open Go Go.Eng Go.Tx
variable {m : Int}
theorem roles_nat {op : Int} (h : 0 ≤ op ∧ op ≤ 18) : ∃ n : Nat, n < 19 ∧ op = n := ⟨op.toNat, by omega, by omega⟩
theorem ref_len {op : Int} (h : 0 ≤ op ∧ op ≤ 18) : (refRoles op).length = (roles op).length := by
  have key : ∀ n : Nat, n < 19 → (([[0, 4], [1, 3], [1, 3, 3], [1, 3, 3], [1, 3, 3], [1, 3, 3], [1, 3, 3], [2, 4, 6], [2, 4, 6], [6], [5, 0], [5, 5], [5, 3], [6], [], [3], [1], [2], []] : List (List Int)).getD n []).length = (roles (n : Int)).length := by decide
  obtain ⟨n, hn, rfl⟩ := roles_nat h
  exact key n hn
theorem roles7 {op : Int} (h : 0 ≤ op ∧ op ≤ 18) {i : Nat} (hi : i < (roles op).length) :
    ((roles op).getD i 0 = 0 ∧ (refRoles op).getD i 0 = 0) ∨ ((roles op).getD i 0 = 1 ∧ (refRoles op).getD i 0 = 2) ∨ ((roles op).getD i 0 = 2 ∧ (refRoles op).getD i 0 = 1) ∨ ((roles op).getD i 0 = 3 ∧ (refRoles op).getD i 0 = 3) ∨
    ((roles op).getD i 0 = 4 ∧ (refRoles op).getD i 0 = 4) ∨ ((roles op).getD i 0 = 5 ∧ (refRoles op).getD i 0 = 5) ∨ ((roles op).getD i 0 = 6 ∧ (refRoles op).getD i 0 = 6) := by
  have key : ∀ n : Nat, n < 19 → ∀ i, i < (roles (n : Int)).length → ∀ l : List Int, l = (([[0, 4], [1, 3], [1, 3, 3], [1, 3, 3], [1, 3, 3], [1, 3, 3], [1, 3, 3], [2, 4, 6], [2, 4, 6], [6], [5, 0], [5, 5], [5, 3], [6], [], [3], [1], [2], []] : List (List Int)).getD n []) →
    ((roles (n : Int)).getD i 0 = 0 ∧ l.getD i 0 = 0) ∨ ((roles (n : Int)).getD i 0 = 1 ∧ l.getD i 0 = 2) ∨ ((roles (n : Int)).getD i 0 = 2 ∧ l.getD i 0 = 1) ∨ ((roles (n : Int)).getD i 0 = 3 ∧ l.getD i 0 = 3) ∨
    ((roles (n : Int)).getD i 0 = 4 ∧ l.getD i 0 = 4) ∨ ((roles (n : Int)).getD i 0 = 5 ∧ l.getD i 0 = 5) ∨ ((roles (n : Int)).getD i 0 = 6 ∧ l.getD i 0 = 6) := by
    have k2 : ∀ n : Nat, n < 19 → ∀ i, i < (roles (n : Int)).length →
      ((roles (n : Int)).getD i 0 = 0 ∧ ([[0, 4], [1, 3], [1, 3, 3], [1, 3, 3], [1, 3, 3], [1, 3, 3], [1, 3, 3], [2, 4, 6], [2, 4, 6], [6], [5, 0], [5, 5], [5, 3], [6], [], [3], [1], [2], []].getD n []).getD i 0 = (0 : Int)) ∨ ((roles (n : Int)).getD i 0 = 1 ∧ ([[0, 4], [1, 3], [1, 3, 3], [1, 3, 3], [1, 3, 3], [1, 3, 3], [1, 3, 3], [2, 4, 6], [2, 4, 6], [6], [5, 0], [5, 5], [5, 3], [6], [], [3], [1], [2], []].getD n []).getD i 0 = (2 : Int)) ∨ ((roles (n : Int)).getD i 0 = 2 ∧ ([[0, 4], [1, 3], [1, 3, 3], [1, 3, 3], [1, 3, 3], [1, 3, 3], [1, 3, 3], [2, 4, 6], [2, 4, 6], [6], [5, 0], [5, 5], [5, 3], [6], [], [3], [1], [2], []].getD n []).getD i 0 = (1 : Int)) ∨ ((roles (n : Int)).getD i 0 = 3 ∧ ([[0, 4], [1, 3], [1, 3, 3], [1, 3, 3], [1, 3, 3], [1, 3, 3], [1, 3, 3], [2, 4, 6], [2, 4, 6], [6], [5, 0], [5, 5], [5, 3], [6], [], [3], [1], [2], []].getD n []).getD i 0 = (3 : Int)) ∨
      ((roles (n : Int)).getD i 0 = 4 ∧ ([[0, 4], [1, 3], [1, 3, 3], [1, 3, 3], [1, 3, 3], [1, 3, 3], [1, 3, 3], [2, 4, 6], [2, 4, 6], [6], [5, 0], [5, 5], [5, 3], [6], [], [3], [1], [2], []].getD n []).getD i 0 = (4 : Int)) ∨ ((roles (n : Int)).getD i 0 = 5 ∧ ([[0, 4], [1, 3], [1, 3, 3], [1, 3, 3], [1, 3, 3], [1, 3, 3], [1, 3, 3], [2, 4, 6], [2, 4, 6], [6], [5, 0], [5, 5], [5, 3], [6], [], [3], [1], [2], []].getD n []).getD i 0 = (5 : Int)) ∨ ((roles (n : Int)).getD i 0 = 6 ∧ ([[0, 4], [1, 3], [1, 3, 3], [1, 3, 3], [1, 3, 3], [1, 3, 3], [1, 3, 3], [2, 4, 6], [2, 4, 6], [6], [5, 0], [5, 5], [5, 3], [6], [], [3], [1], [2], []].getD n []).getD i 0 = (6 : Int)) := by decide
    intro n hn i hi l hl
    subst hl
    exact k2 n hn i hi
  obtain ⟨n, hn, rfl⟩ := roles_nat h
  exact key n hn i hi _ rfl
theorem num_and (t : Ty) : isNum t = (decide (1 ≤ t.k) && decide (t.k ≤ 3)) := by unfold isNum; exact Bool.decide_and ..
theorem scalar_data (k : Int) : (isData k && !decide (k = 4)) = isScalarK k := by
  rw [Bool.eq_iff_iff]; simp [isData, isScalarK]; omega
theorem fits0 (o b : Opd) : fits o b 0 = isScalarK o.kind := by simp [fits, ← scalar_data]
theorem fitsD1 (o b : Opd) : fits o b 1 = isData o.kind := by simp [fits]
theorem fits2 (o b : Opd) : fits o b 2 = (isScalarK o.kind && (decide (1 ≤ o.ty.k) && decide (o.ty.k ≤ 3))) := by rw [← num_and, ← scalar_data]; simp [fits]
theorem fits3 (o b : Opd) : fits o b 3 = (isData o.kind && (decide (1 ≤ o.ty.k) && decide (o.ty.k ≤ 3))) := by rw [← num_and]; simp [fits]
theorem fits4 (o b : Opd) : fits o b 4 = (isData o.kind && ((decide (1 ≤ o.ty.k) && decide (o.ty.k ≤ 3)) == (decide (1 ≤ b.ty.k) && decide (b.ty.k ≤ 3)))) := by rw [← num_and, ← num_and]; simp [fits]; cases isNum o.ty <;> cases isNum b.ty <;> simp
theorem fits5 (o b : Opd) : fits o b 5 = decide (o.kind = 3) := by simp [fits]
theorem fits6 (o b : Opd) : fits o b 6 = decide (o.kind = 5) := by simp [fits]
noncomputable def CinsErrR : Con
  | [v, w] => .need (∃ p x, eqv (aPrg p) v ∧ eqv (aIns x) w) (.ret (.int .i64 (insErr (prgOf v) (insOf1 w))))
  | _ => .fail
noncomputable def inv30 (p : Prg) (x : Ins) (P : Nat → Prop) : Eng.Inv :=
  ⟨{ i : Nat // i ≤ x.args.length ∧ ∀ k, k < i → P k }, fun i => [(2, .ptr 2 0), (3, .ptr 3 0), (5, slInts (refRoles x.op)), (6, I i.1)],
    fun i => [(2, .box [slOpds p.ops, slIns p.ins, slMons p.mons] false), (3, .box (cIns x) false)], fun i => x.args.length - i.1⟩
theorem ok30 : Ok m 30 CinsErrR := fn_ok2 (cons_cons ok6 (cons_cons ok58 (cons_cons ok59 (cons_cons ok54 (cons_cons ok60 cons_nil))))) Tryz.func30 (by kernel_rfl) fun xs r hr hp => by
  unfold CinsErrR at hr
  split at hr
  · rename_i v w
    obtain ⟨⟨p, x, hl, hx⟩, hr⟩ := Tr.run_need hr
    obtain rfl := Tr.run_ret hr
    have hb := prg_small hl hp.1
    have hb2 := ins1_small hx hp.2.1
    rw [prg_eqv hl, ins1_eqv hx]
    refine ⟨[aPrg p, aIns x], [(0, inv30 p x (fun k => argErr p x k = 0))], ⟨.inr ⟨rfl, rfl, hl⟩, .inr ⟨rfl, rfl, hx⟩, trivial⟩, of_nice (((!(decide ((0 : Int) ≤ x.op) && decide (x.op ≤ (18 : Int)))) = true → (4 : Int) = insErr p x) ∧ ((!(decide ((0 : Int) ≤ x.op) && decide (x.op ≤ (18 : Int)))) = false → Ob ((0 :
  Int) ≤ x.op ∧ x.op ≤ (18 : Int)) ∧ ((!decide ((↑x.args.length : Int) = (↑(refRoles x.op).length : Int))) = true → (37 : Int) = insErr p x) ∧ ((!decide ((↑x.args.length : Int) =
  (↑(refRoles x.op).length : Int))) = false → (∃ (j : { i : Nat // i ≤ x.args.length ∧ ∀ (k : Nat), k < i → argErr p x k = (0 : Int) }), True ∧ True ∧ ((refRoles x.op).length =
  (refRoles x.op).length ∧ ∀ (i : Nat), i < (refRoles x.op).length → [AV.int IntKind.i64 ((refRoles x.op).getD i (0 : Int))] = [AV.int IntKind.i64 ((refRoles x.op).getD i (0 :
  Int))]) ∧ (0 : Int) = (↑j.val : Int) ∧ ((p.ops.length = p.ops.length ∧ ∀ (i : Nat), i < p.ops.length → cOpd (p.ops.getD i opd0) = cOpd (p.ops.getD i opd0)) ∧ (p.ins.length =
  p.ins.length ∧ ∀ (i : Nat), i < p.ins.length → cIns (p.ins.getD i ins0) = cIns (p.ins.getD i ins0)) ∧ p.mons.length = p.mons.length ∧ ∀ (i : Nat), i < p.mons.length → cMon
  (p.mons.getD i mon0) = cMon (p.mons.getD i mon0)) ∧ (x.op = x.op ∧ x.args.length = x.args.length ∧ ∀ (i : Nat), i < x.args.length → [AV.int IntKind.i64 (x.args.getD i (0 :
  Int))] = [AV.int IntKind.i64 (x.args.getD i (0 : Int))]) ∧ True) ∧ ∀ (i : { i : Nat // i ≤ x.args.length ∧ ∀ (k : Nat), k < i → argErr p x k = (0 : Int) }), (decide ((↑i.val :
  Int) < (↑(refRoles x.op).length : Int)) = true → Ob ((0 : Int) ≤ (↑i.val : Int) ∧ (↑i.val : Int) < (↑x.args.length : Int)) ∧ Ob (inI64 ((↑p.ops.length : Int) - (1 : Int))) ∧
  ((!(decide ((0 : Int) ≤ x.args.getD i.val (0 : Int)) && decide (x.args.getD i.val (0 : Int) ≤ (↑p.ops.length : Int) - (1 : Int)))) = true → (3 : Int) = insErr p x) ∧ ((!(decide
  ((0 : Int) ≤ x.args.getD i.val (0 : Int)) && decide (x.args.getD i.val (0 : Int) ≤ (↑p.ops.length : Int) - (1 : Int)))) = false → Ob ((0 : Int) ≤ (↑i.val : Int) ∧ (↑i.val :
  Int) < (↑x.args.length : Int)) ∧ Ob ((0 : Int) ≤ x.args.getD i.val (0 : Int) ∧ x.args.getD i.val (0 : Int) < (↑p.ops.length : Int)) ∧ Ob ((0 : Int) ≤ (↑i.val : Int) ∧ (↑i.val :
  Int) < (↑(refRoles x.op).length : Int)) ∧ (decide ((refRoles x.op).getD i.val (0 : Int) = (0 : Int)) = true → ((!isScalarK (p.ops.getD (x.args.getD i.val (0 : Int)).toNat
  opd0).kind) = true → (17 : Int) = insErr p x) ∧ ((!isScalarK (p.ops.getD (x.args.getD i.val (0 : Int)).toNat opd0).kind) = false → Ob (inI64 ((↑i.val : Int) + (1 : Int))) ∧ ∃
  (j : { i : Nat // i ≤ x.args.length ∧ ∀ (k : Nat), k < i → argErr p x k = (0 : Int) }), (x.args.length - j.val).succ.le (x.args.length - i.val) ∧ True ∧ True ∧ ((refRoles
  x.op).length = (refRoles x.op).length ∧ ∀ (i : Nat), i < (refRoles x.op).length → [AV.int IntKind.i64 ((refRoles x.op).getD i (0 : Int))] = [AV.int IntKind.i64 ((refRoles
  x.op).getD i (0 : Int))]) ∧ (↑i.val : Int) + (1 : Int) = (↑j.val : Int) ∧ ((p.ops.length = p.ops.length ∧ ∀ (i : Nat), i < p.ops.length → cOpd (p.ops.getD i opd0) = cOpd
  (p.ops.getD i opd0)) ∧ (p.ins.length = p.ins.length ∧ ∀ (i : Nat), i < p.ins.length → cIns (p.ins.getD i ins0) = cIns (p.ins.getD i ins0)) ∧ p.mons.length = p.mons.length ∧ ∀
  (i : Nat), i < p.mons.length → cMon (p.mons.getD i mon0) = cMon (p.mons.getD i mon0)) ∧ (x.op = x.op ∧ x.args.length = x.args.length ∧ ∀ (i : Nat), i < x.args.length → [AV.int
  IntKind.i64 (x.args.getD i (0 : Int))] = [AV.int IntKind.i64 (x.args.getD i (0 : Int))]) ∧ True)) ∧ (decide ((refRoles x.op).getD i.val (0 : Int) = (0 : Int)) = false → (decide
  ((refRoles x.op).getD i.val (0 : Int) = (1 : Int)) = true → Ob (isScalarK (p.ops.getD (x.args.getD i.val (0 : Int)).toNat opd0).kind = true → aOpd (p.ops.getD (x.args.getD
  i.val (0 : Int)).toNat opd0) = aOpd (p.ops.getD (x.args.getD i.val (0 : Int)).toNat opd0)) ∧ ((!bif isScalarK (p.ops.getD (x.args.getD i.val (0 : Int)).toNat opd0).kind then
  decide ((1 : Int) ≤ (p.ops.getD (x.args.getD i.val (0 : Int)).toNat opd0).ty.k) && decide ((p.ops.getD (x.args.getD i.val (0 : Int)).toNat opd0).ty.k ≤ (3 : Int)) else false) =
  true → (17 : Int) = insErr p x) ∧ ((!bif isScalarK (p.ops.getD (x.args.getD i.val (0 : Int)).toNat opd0).kind then decide ((1 : Int) ≤ (p.ops.getD (x.args.getD i.val (0 :
  Int)).toNat opd0).ty.k) && decide ((p.ops.getD (x.args.getD i.val (0 : Int)).toNat opd0).ty.k ≤ (3 : Int)) else false) = false → Ob (inI64 ((↑i.val : Int) + (1 : Int))) ∧ ∃ (j
  : { i : Nat // i ≤ x.args.length ∧ ∀ (k : Nat), k < i → argErr p x k = (0 : Int) }), (x.args.length - j.val).succ.le (x.args.length - i.val) ∧ True ∧ True ∧ ((refRoles
  x.op).length = (refRoles x.op).length ∧ ∀ (i : Nat), i < (refRoles x.op).length → [AV.int IntKind.i64 ((refRoles x.op).getD i (0 : Int))] = [AV.int IntKind.i64 ((refRoles
  x.op).getD i (0 : Int))]) ∧ (↑i.val : Int) + (1 : Int) = (↑j.val : Int) ∧ ((p.ops.length = p.ops.length ∧ ∀ (i : Nat), i < p.ops.length → cOpd (p.ops.getD i opd0) = cOpd
  (p.ops.getD i opd0)) ∧ (p.ins.length = p.ins.length ∧ ∀ (i : Nat), i < p.ins.length → cIns (p.ins.getD i ins0) = cIns (p.ins.getD i ins0)) ∧ p.mons.length = p.mons.length ∧ ∀
  (i : Nat), i < p.mons.length → cMon (p.mons.getD i mon0) = cMon (p.mons.getD i mon0)) ∧ (x.op = x.op ∧ x.args.length = x.args.length ∧ ∀ (i : Nat), i < x.args.length → [AV.int
  IntKind.i64 (x.args.getD i (0 : Int))] = [AV.int IntKind.i64 (x.args.getD i (0 : Int))]) ∧ True)) ∧ (decide ((refRoles x.op).getD i.val (0 : Int) = (1 : Int)) = false → (decide
  ((refRoles x.op).getD i.val (0 : Int) = (2 : Int)) = true → ((!isData (p.ops.getD (x.args.getD i.val (0 : Int)).toNat opd0).kind) = true → (17 : Int) = insErr p x) ∧ ((!isData
  (p.ops.getD (x.args.getD i.val (0 : Int)).toNat opd0).kind) = false → Ob (inI64 ((↑i.val : Int) + (1 : Int))) ∧ ∃ (j : { i : Nat // i ≤ x.args.length ∧ ∀ (k : Nat), k < i →
  argErr p x k = (0 : Int) }), (x.args.length - j.val).succ.le (x.args.length - i.val) ∧ True ∧ True ∧ ((refRoles x.op).length = (refRoles x.op).length ∧ ∀ (i : Nat), i <
  (refRoles x.op).length → [AV.int IntKind.i64 ((refRoles x.op).getD i (0 : Int))] = [AV.int IntKind.i64 ((refRoles x.op).getD i (0 : Int))]) ∧ (↑i.val : Int) + (1 : Int) =
  (↑j.val : Int) ∧ ((p.ops.length = p.ops.length ∧ ∀ (i : Nat), i < p.ops.length → cOpd (p.ops.getD i opd0) = cOpd (p.ops.getD i opd0)) ∧ (p.ins.length = p.ins.length ∧ ∀ (i :
  Nat), i < p.ins.length → cIns (p.ins.getD i ins0) = cIns (p.ins.getD i ins0)) ∧ p.mons.length = p.mons.length ∧ ∀ (i : Nat), i < p.mons.length → cMon (p.mons.getD i mon0) =
  cMon (p.mons.getD i mon0)) ∧ (x.op = x.op ∧ x.args.length = x.args.length ∧ ∀ (i : Nat), i < x.args.length → [AV.int IntKind.i64 (x.args.getD i (0 : Int))] = [AV.int
  IntKind.i64 (x.args.getD i (0 : Int))]) ∧ True)) ∧ (decide ((refRoles x.op).getD i.val (0 : Int) = (2 : Int)) = false → (decide ((refRoles x.op).getD i.val (0 : Int) = (3 :
  Int)) = true → Ob (isData (p.ops.getD (x.args.getD i.val (0 : Int)).toNat opd0).kind = true → aOpd (p.ops.getD (x.args.getD i.val (0 : Int)).toNat opd0) = aOpd (p.ops.getD
  (x.args.getD i.val (0 : Int)).toNat opd0)) ∧ ((!bif isData (p.ops.getD (x.args.getD i.val (0 : Int)).toNat opd0).kind then decide ((1 : Int) ≤ (p.ops.getD (x.args.getD i.val (0
  : Int)).toNat opd0).ty.k) && decide ((p.ops.getD (x.args.getD i.val (0 : Int)).toNat opd0).ty.k ≤ (3 : Int)) else false) = true → (17 : Int) = insErr p x) ∧ ((!bif isData
  (p.ops.getD (x.args.getD i.val (0 : Int)).toNat opd0).kind then decide ((1 : Int) ≤ (p.ops.getD (x.args.getD i.val (0 : Int)).toNat opd0).ty.k) && decide ((p.ops.getD
  (x.args.getD i.val (0 : Int)).toNat opd0).ty.k ≤ (3 : Int)) else false) = false → Ob (inI64 ((↑i.val : Int) + (1 : Int))) ∧ ∃ (j : { i : Nat // i ≤ x.args.length ∧ ∀ (k : Nat),
  k < i → argErr p x k = (0 : Int) }), (x.args.length - j.val).succ.le (x.args.length - i.val) ∧ True ∧ True ∧ ((refRoles x.op).length = (refRoles x.op).length ∧ ∀ (i : Nat), i <
  (refRoles x.op).length → [AV.int IntKind.i64 ((refRoles x.op).getD i (0 : Int))] = [AV.int IntKind.i64 ((refRoles x.op).getD i (0 : Int))]) ∧ (↑i.val : Int) + (1 : Int) =
  (↑j.val : Int) ∧ ((p.ops.length = p.ops.length ∧ ∀ (i : Nat), i < p.ops.length → cOpd (p.ops.getD i opd0) = cOpd (p.ops.getD i opd0)) ∧ (p.ins.length = p.ins.length ∧ ∀ (i :
  Nat), i < p.ins.length → cIns (p.ins.getD i ins0) = cIns (p.ins.getD i ins0)) ∧ p.mons.length = p.mons.length ∧ ∀ (i : Nat), i < p.mons.length → cMon (p.mons.getD i mon0) =
  cMon (p.mons.getD i mon0)) ∧ (x.op = x.op ∧ x.args.length = x.args.length ∧ ∀ (i : Nat), i < x.args.length → [AV.int IntKind.i64 (x.args.getD i (0 : Int))] = [AV.int
  IntKind.i64 (x.args.getD i (0 : Int))]) ∧ True)) ∧ (decide ((refRoles x.op).getD i.val (0 : Int) = (3 : Int)) = false → (decide ((refRoles x.op).getD i.val (0 : Int) = (4 :
  Int)) = true → Ob (isData (p.ops.getD (x.args.getD i.val (0 : Int)).toNat opd0).kind = true → aOpd (p.ops.getD (x.args.getD i.val (0 : Int)).toNat opd0) = aOpd (p.ops.getD
  (x.args.getD i.val (0 : Int)).toNat opd0)) ∧ Ob (isData (p.ops.getD (x.args.getD i.val (0 : Int)).toNat opd0).kind = true → inI64 ((↑i.val : Int) - (1 : Int))) ∧ Ob (isData
  (p.ops.getD (x.args.getD i.val (0 : Int)).toNat opd0).kind = true → (0 : Int) ≤ (↑i.val : Int) - (1 : Int) ∧ (↑i.val : Int) - (1 : Int) < (↑x.args.length : Int)) ∧ Ob (isData
  (p.ops.getD (x.args.getD i.val (0 : Int)).toNat opd0).kind = true → (0 : Int) ≤ x.args.getD ((↑i.val : Int) - (1 : Int)).toNat (0 : Int) ∧ x.args.getD ((↑i.val : Int) - (1 :
  Int)).toNat (0 : Int) < (↑p.ops.length : Int)) ∧ Ob (isData (p.ops.getD (x.args.getD i.val (0 : Int)).toNat opd0).kind = true → aOpd (p.ops.getD (x.args.getD ((↑i.val : Int) -
  (1 : Int)).toNat (0 : Int)).toNat opd0) = aOpd (p.ops.getD (x.args.getD ((↑i.val : Int) - (1 : Int)).toNat (0 : Int)).toNat opd0)) ∧ ((!bif isData (p.ops.getD (x.args.getD
  i.val (0 : Int)).toNat opd0).kind then (decide ((1 : Int) ≤ (p.ops.getD (x.args.getD i.val (0 : Int)).toNat opd0).ty.k) && decide ((p.ops.getD (x.args.getD i.val (0 :
  Int)).toNat opd0).ty.k ≤ (3 : Int))) == (decide ((1 : Int) ≤ (p.ops.getD (x.args.getD ((↑i.val : Int) - (1 : Int)).toNat (0 : Int)).toNat opd0).ty.k) && decide ((p.ops.getD
  (x.args.getD ((↑i.val : Int) - (1 : Int)).toNat (0 : Int)).toNat opd0).ty.k ≤ (3 : Int))) else false) = true → (17 : Int) = insErr p x) ∧ ((!bif isData (p.ops.getD (x.args.getD
  i.val (0 : Int)).toNat opd0).kind then (decide ((1 : Int) ≤ (p.ops.getD (x.args.getD i.val (0 : Int)).toNat opd0).ty.k) && decide ((p.ops.getD (x.args.getD i.val (0 :
  Int)).toNat opd0).ty.k ≤ (3 : Int))) == (decide ((1 : Int) ≤ (p.ops.getD (x.args.getD ((↑i.val : Int) - (1 : Int)).toNat (0 : Int)).toNat opd0).ty.k) && decide ((p.ops.getD
  (x.args.getD ((↑i.val : Int) - (1 : Int)).toNat (0 : Int)).toNat opd0).ty.k ≤ (3 : Int))) else false) = false → Ob (inI64 ((↑i.val : Int) + (1 : Int))) ∧ ∃ (j : { i : Nat // i
  ≤ x.args.length ∧ ∀ (k : Nat), k < i → argErr p x k = (0 : Int) }), (x.args.length - j.val).succ.le (x.args.length - i.val) ∧ True ∧ True ∧ ((refRoles x.op).length = (refRoles
  x.op).length ∧ ∀ (i : Nat), i < (refRoles x.op).length → [AV.int IntKind.i64 ((refRoles x.op).getD i (0 : Int))] = [AV.int IntKind.i64 ((refRoles x.op).getD i (0 : Int))]) ∧
  (↑i.val : Int) + (1 : Int) = (↑j.val : Int) ∧ ((p.ops.length = p.ops.length ∧ ∀ (i : Nat), i < p.ops.length → cOpd (p.ops.getD i opd0) = cOpd (p.ops.getD i opd0)) ∧
  (p.ins.length = p.ins.length ∧ ∀ (i : Nat), i < p.ins.length → cIns (p.ins.getD i ins0) = cIns (p.ins.getD i ins0)) ∧ p.mons.length = p.mons.length ∧ ∀ (i : Nat), i <
  p.mons.length → cMon (p.mons.getD i mon0) = cMon (p.mons.getD i mon0)) ∧ (x.op = x.op ∧ x.args.length = x.args.length ∧ ∀ (i : Nat), i < x.args.length → [AV.int IntKind.i64
  (x.args.getD i (0 : Int))] = [AV.int IntKind.i64 (x.args.getD i (0 : Int))]) ∧ True)) ∧ (decide ((refRoles x.op).getD i.val (0 : Int) = (4 : Int)) = false → (decide ((refRoles
  x.op).getD i.val (0 : Int) = (5 : Int)) = true → ((!decide ((p.ops.getD (x.args.getD i.val (0 : Int)).toNat opd0).kind = (3 : Int))) = true → (17 : Int) = insErr p x) ∧
  ((!decide ((p.ops.getD (x.args.getD i.val (0 : Int)).toNat opd0).kind = (3 : Int))) = false → Ob (inI64 ((↑i.val : Int) + (1 : Int))) ∧ ∃ (j : { i : Nat // i ≤ x.args.length ∧
  ∀ (k : Nat), k < i → argErr p x k = (0 : Int) }), (x.args.length - j.val).succ.le (x.args.length - i.val) ∧ True ∧ True ∧ ((refRoles x.op).length = (refRoles x.op).length ∧ ∀
  (i : Nat), i < (refRoles x.op).length → [AV.int IntKind.i64 ((refRoles x.op).getD i (0 : Int))] = [AV.int IntKind.i64 ((refRoles x.op).getD i (0 : Int))]) ∧ (↑i.val : Int) + (1
  : Int) = (↑j.val : Int) ∧ ((p.ops.length = p.ops.length ∧ ∀ (i : Nat), i < p.ops.length → cOpd (p.ops.getD i opd0) = cOpd (p.ops.getD i opd0)) ∧ (p.ins.length = p.ins.length ∧
  ∀ (i : Nat), i < p.ins.length → cIns (p.ins.getD i ins0) = cIns (p.ins.getD i ins0)) ∧ p.mons.length = p.mons.length ∧ ∀ (i : Nat), i < p.mons.length → cMon (p.mons.getD i
  mon0) = cMon (p.mons.getD i mon0)) ∧ (x.op = x.op ∧ x.args.length = x.args.length ∧ ∀ (i : Nat), i < x.args.length → [AV.int IntKind.i64 (x.args.getD i (0 : Int))] = [AV.int
  IntKind.i64 (x.args.getD i (0 : Int))]) ∧ True)) ∧ (decide ((refRoles x.op).getD i.val (0 : Int) = (5 : Int)) = false → (decide ((refRoles x.op).getD i.val (0 : Int) = (6 :
  Int)) = true → ((!decide ((p.ops.getD (x.args.getD i.val (0 : Int)).toNat opd0).kind = (5 : Int))) = true → (17 : Int) = insErr p x) ∧ ((!decide ((p.ops.getD (x.args.getD i.val
  (0 : Int)).toNat opd0).kind = (5 : Int))) = false → Ob (inI64 ((↑i.val : Int) + (1 : Int))) ∧ ∃ (j : { i : Nat // i ≤ x.args.length ∧ ∀ (k : Nat), k < i → argErr p x k = (0 :
  Int) }), (x.args.length - j.val).succ.le (x.args.length - i.val) ∧ True ∧ True ∧ ((refRoles x.op).length = (refRoles x.op).length ∧ ∀ (i : Nat), i < (refRoles x.op).length →
  [AV.int IntKind.i64 ((refRoles x.op).getD i (0 : Int))] = [AV.int IntKind.i64 ((refRoles x.op).getD i (0 : Int))]) ∧ (↑i.val : Int) + (1 : Int) = (↑j.val : Int) ∧
  ((p.ops.length = p.ops.length ∧ ∀ (i : Nat), i < p.ops.length → cOpd (p.ops.getD i opd0) = cOpd (p.ops.getD i opd0)) ∧ (p.ins.length = p.ins.length ∧ ∀ (i : Nat), i <
  p.ins.length → cIns (p.ins.getD i ins0) = cIns (p.ins.getD i ins0)) ∧ p.mons.length = p.mons.length ∧ ∀ (i : Nat), i < p.mons.length → cMon (p.mons.getD i mon0) = cMon
  (p.mons.getD i mon0)) ∧ (x.op = x.op ∧ x.args.length = x.args.length ∧ ∀ (i : Nat), i < x.args.length → [AV.int IntKind.i64 (x.args.getD i (0 : Int))] = [AV.int IntKind.i64
  (x.args.getD i (0 : Int))]) ∧ True)) ∧ (decide ((refRoles x.op).getD i.val (0 : Int) = (6 : Int)) = false → (17 : Int) = insErr p x))))))))) ∧ (decide ((↑i.val : Int) <
  (↑(refRoles x.op).length : Int)) = false → (0 : Int) = insErr p x)))) (by kernel_rfl) ?_⟩
    simp only [Ob_iff, inI64, band_c, bor_c, decide_eq_true_eq, decide_eq_false_iff_not, Bool.and_eq_true, Bool.not_eq_true', Bool.not_eq_false', Bool.and_eq_false_iff, true_and, implies_true, and_true]
    obtain ⟨q1, q2, _⟩ := hb
    unfold maxLen at q1 hb2
    refine And.intro (fun h => ?_) (fun o1 => And.intro o1 (And.intro (fun h => ?_) (fun h => And.intro ⟨⟨0, Nat.zero_le _, below_zero⟩, rfl⟩ ?_)))
    · unfold insErr; rw [if_pos (by omega)]
    · rw [ref_len o1] at h
      unfold insErr
      rw [if_neg (fun e => e o1), if_pos (by omega)]
    · have o2 : x.args.length = (roles x.op).length := by rw [← ref_len o1]; omega
      rintro ⟨i, hi, hk⟩
      dsimp only
      have bad : i < x.args.length → argErr p x i ≠ 0 → insErr p x = argErr p x i := fun h1 h2 => by
        unfold insErr
        rw [if_neg (fun e => e o1), if_neg (fun e => e o2)]
        exact firstErr_at hk h2 h1
      refine And.intro (fun h => ?_) (fun h => ?_)
      · have h' : i < x.args.length := by rw [ref_len o1] at h; omega
        refine And.intro (by omega) (And.intro (by omega) (And.intro (fun h1 => ?_) (fun a1 => And.intro (by omega) (And.intro (by omega) (And.intro (by omega) ?_)))))
        · have e : argErr p x i = 3 := by unfold argErr; rw [if_pos (by omega)]
          rw [bad h' (by omega), e]
        · have b17 : fits (argOpd p x i) (argBefore p x i) ((roles x.op).getD i 0) = false → insErr p x = 17 := fun hf => by
            have e : argErr p x i = 17 := by unfold argErr; rw [if_neg (fun e => e a1), if_pos hf]
            rw [bad h' (by omega), e]
          have good : fits (argOpd p x i) (argBefore p x i) ((roles x.op).getD i 0) = true → (-9223372036854775808 ≤ (i : Int) + 1 ∧ (i : Int) + 1 ≤ 9223372036854775807) ∧ ∃ j : { i : Nat // i ≤ x.args.length ∧ ∀ (k : Nat), k < i → argErr p x k = 0 }, (x.args.length - j.val).succ.le (x.args.length - i) ∧ (i : Int) + 1 = (j.val : Int) := fun hf => by
            have e : argErr p x i = 0 := by unfold argErr; rw [if_neg (fun e => e a1), if_neg (by rw [hf]; simp)]
            exact ⟨by omega, ⟨i + 1, h', below_succ hk e⟩, sub_step h', rfl⟩
          rcases roles7 o1 (o2 ▸ h') with ⟨h1, h2⟩ | ⟨h1, h2⟩ | ⟨h1, h2⟩ | ⟨h1, h2⟩ | ⟨h1, h2⟩ | ⟨h1, h2⟩ | ⟨h1, h2⟩ <;> simp only [h2, Int.reduceEq, not_true, not_false_eq_true, true_implies, false_implies, implies_true, and_true, true_and] <;> rw [h1] at b17 good
          · rw [fits0] at b17 good
            exact ⟨fun h => (b17 h).symm, good⟩
          · rw [fitsD1] at b17 good
            exact ⟨fun h => (b17 h).symm, good⟩
          · rw [fits2] at b17 good
            simp only [Bool.and_eq_true, Bool.and_eq_false_iff, decide_eq_true_eq, decide_eq_false_iff_not] at b17 good
            exact ⟨fun h => (b17 h).symm, good⟩
          · rw [fits3] at b17 good
            simp only [Bool.and_eq_true, Bool.and_eq_false_iff, decide_eq_true_eq, decide_eq_false_iff_not] at b17 good
            exact ⟨fun h => (b17 h).symm, good⟩
          · obtain ⟨rfl, h01⟩ := roles_alike o1 (o2 ▸ h') h1
            have a0 : 0 ≤ x.args.getD 0 0 ∧ x.args.getD 0 0 ≤ (p.ops.length : Int) - 1 := by
              have := hk 0 (by omega)
              unfold argErr at this
              by_cases h3 : 0 ≤ x.args.getD 0 0 ∧ x.args.getD 0 0 ≤ (p.ops.length : Int) - 1
              · exact h3
              · rw [if_pos h3] at this; cases this
            rw [fits4] at b17 good
            simp only [Bool.and_eq_true, Bool.and_eq_false_iff] at b17 good
            exact ⟨fun _ => by decide, fun _ => ⟨by decide, by omega⟩, fun _ => ⟨a0.1, show x.args.getD 0 0 < (p.ops.length : Int) by omega⟩, fun h => (b17 h).symm, good⟩
          · rw [fits5] at b17 good
            simp only [decide_eq_true_eq, decide_eq_false_iff_not] at b17 good
            exact ⟨fun h => (b17 h).symm, good⟩
          · rw [fits6] at b17 good
            simp only [decide_eq_true_eq, decide_eq_false_iff_not] at b17 good
            exact ⟨fun h => (b17 h).symm, good⟩
      · have h' : i = x.args.length := by rw [ref_len o1] at h; omega
        subst h'
        unfold insErr
        rw [if_neg (fun e => e o1), if_neg (fun e => e o2), firstErr_all hk]
  · exact (Tr.run_fail hr).elim
end Go.Proofs.YtgcnbicoajjlaaaGreatDoor
end
section
set_option linter.unusedVariables false
set_option linter.unusedSimpArgs false
set_option maxRecDepth 100000
namespace Go.Proofs.YtgcnbicoajjlaaaGreatDoor
open Go Go.Eng Go.Tx
variable {m : Int}
noncomputable def Crep : Con
  | [v, .int .i64 n] => .need (eqv (slInts [-1]) v ∧ 0 ≤ n ∧ n ≤ 1000) (.ret (.fresh 3 1 ((List.replicate n.toNat (-1 : Int)).map cInt)))
  | _ => .fail
noncomputable def ptrRoom : List Opd → Int
  | [] => 0
  | o :: r => (if o.kind = 3 then 16 else 0) + ptrRoom r
noncomputable def sclRoom : List Opd → Int
  | [] => 0
  | o :: r => (if o.kind = 0 then size o.ty else 0) + sclRoom r
theorem room_parts : ∀ l : List Opd, room l = ptrRoom l + sclRoom l
  | [] => rfl
  | o :: r => by
    have := room_parts r
    simp only [room, ptrRoom, sclRoom, this]
    by_cases h : o.kind = 3
    · have h0 : ¬ o.kind = 0 := by omega
      simp [h, h0]; omega
    · by_cases h0 : o.kind = 0 <;> simp [h, h0] <;> omega
theorem ptrRoom_take {l : List Opd} : ∀ {i : Nat}, i < l.length → ptrRoom (l.take (i + 1)) = ptrRoom (l.take i) + (if (l.getD i opd0).kind = 3 then 16 else 0) := by
  induction l with
  | nil => intro i h; simp at h
  | cons o r ih =>
    intro i h
    cases i with
    | zero => simp [ptrRoom]
    | succ i =>
      have := ih (i := i) (by simpa using h)
      simp only [List.take_succ_cons, ptrRoom, List.getD_cons_succ] at this ⊢
      omega
theorem sclRoom_take {l : List Opd} : ∀ {i : Nat}, i < l.length → sclRoom (l.take (i + 1)) = sclRoom (l.take i) + (if (l.getD i opd0).kind = 0 then size (l.getD i opd0).ty else 0) := by
  induction l with
  | nil => intro i h; simp at h
  | cons o r ih =>
    intro i h
    cases i with
    | zero => simp [sclRoom]
    | succ i =>
      have := ih (i := i) (by simpa using h)
      simp only [List.take_succ_cons, sclRoom, List.getD_cons_succ] at this ⊢
      omega
theorem ptrRoom_le (l : List Opd) : 0 ≤ ptrRoom l ∧ ptrRoom l ≤ 16 * l.length := by
  induction l with
  | nil => simp [ptrRoom]
  | cons o r ih =>
    simp only [ptrRoom, List.length_cons]
    split <;> omega
theorem sclRoom_le {p : Prg} (hR : AllRight p) : ∀ {i : Nat}, i ≤ p.ops.length → 0 ≤ sclRoom (p.ops.take i) ∧ sclRoom (p.ops.take i) ≤ 256 * i
  | 0, _ => by simp [sclRoom]
  | i + 1, h => by
    have ih := sclRoom_le hR (i := i) (by omega)
    rw [sclRoom_take (by omega)]
    split
    · rename_i hk
      have ht := (opRight (hR i (by omega))).ty (by unfold isData; simp only [decide_eq_true_eq]; omega)
      have hs := size_facts ht.1
      omega
    · omega
theorem row_len (out : List Int) : (out.map cInt).length = out.length := by simp
theorem row_get {out : List Int} {i : Nat} (h : i < out.length) : (out.map cInt).getD i [] = [.int .i64 (out.getD i 0)] := by
  rw [List.getD_eq_getElem?_getD, List.getElem?_map, List.getElem?_eq_getElem h, List.getD_eq_getElem?_getD, List.getElem?_eq_getElem h]
  rfl
theorem row_set {out : List Int} {i : Nat} (h : i < out.length) (x : Int) : (out.map cInt).set i (setRange ((out.map cInt).getD i []) 0 [.int .i64 x]) = (out.set i x).map cInt := by
  rw [row_get h, List.map_set]
  rfl
theorem set_bound {out : List Int} {i : Nat} {x a b : Int} (h : ∀ k, k < out.length → a ≤ out.getD k 0 ∧ out.getD k 0 ≤ b) (hx : a ≤ x ∧ x ≤ b) : ∀ k, k < (out.set i x).length → a ≤ (out.set i x).getD k 0 ∧ (out.set i x).getD k 0 ≤ b := by
  intro k hk
  rw [List.length_set] at hk
  have := h k hk
  rw [List.getD_eq_getElem?_getD, List.getElem?_eq_getElem (by simpa using hk), List.getElem_set]
  rw [List.getD_eq_getElem?_getD, List.getElem?_eq_getElem hk] at this
  simp only [Option.getD_some] at this ⊢
  split
  · exact hx
  · exact this
noncomputable def invLay1 (l : List Opd) : Eng.Inv :=
  ⟨{ s : Nat × List Int // s.1 ≤ l.length ∧ s.2.length = l.length ∧ ∀ k, k < s.2.length → -1 ≤ s.2.getD k 0 ∧ s.2.getD k 0 ≤ 7000 },
    fun s => [(0, slOpds l), (4, .row 15), (5, I (ptrRoom (l.take s.1.1))), (16, slOpds l), (17, I l.length), (18, I s.1.1)], fun s => [(15, .row 3 1 (s.1.2.map cInt) false)], fun s => l.length - s.1.1⟩
noncomputable def invLay2 (l : List Opd) : Eng.Inv :=
  ⟨{ s : Nat × List Int // s.1 ≤ l.length ∧ s.2.length = l.length ∧ ∀ k, k < s.2.length → -1 ≤ s.2.getD k 0 ∧ s.2.getD k 0 ≤ 7000 },
    fun s => [(0, slOpds l), (4, .row 15), (5, I (ptrRoom l + sclRoom (l.take s.1.1))), (33, slOpds l), (34, I l.length), (35, I s.1.1)], fun s => [(15, .row 3 1 (s.1.2.map cInt) false)], fun s => l.length - s.1.1⟩
noncomputable def invLay3 (l : List Opd) : Eng.Inv :=
  ⟨{ s : Nat × List Int // s.1 ≤ l.length ∧ s.2.length = l.length ∧ ∀ k, k < s.2.length → -1 ≤ s.2.getD k 0 ∧ s.2.getD k 0 ≤ 7000 + 256 * (s.1 : Int) },
    fun s => [(0, slOpds l), (4, .row 15), (5, I (ptrRoom l + sclRoom l)), (52, slOpds l), (53, I l.length), (54, I s.1.1)], fun s => [(15, .row 3 1 (s.1.2.map cInt) false)], fun s => l.length - s.1.1⟩
noncomputable def Clayout : Con
  | [v] => .need (∃ p : Prg, eqv (slOpds p.ops) v ∧ p.ops.length ≤ 24 ∧ AllRight p) (.ret (.tup [.any, .int .i64 (quads (opdsOf v))]))
  | _ => .fail
theorem ok64 (h97 : Ok m 97 Crep) : Ok m 64 Clayout := fn_ok2 (cons_cons h97 (cons_cons ok98 (cons_cons ok50 cons_nil))) Tryz.func64 (by kernel_rfl) fun xs r hr hp => by
  unfold Clayout at hr
  split at hr
  · rename_i v
    obtain ⟨⟨p, hl, h24, hR⟩, hr⟩ := Tr.run_need hr
    obtain rfl := Tr.run_ret hr
    rw [opds_eqv hl]
    generalize hlops : p.ops = l at *
    refine ⟨[slOpds l], [(0, invLay1 l), (2, invLay2 l), (4, invLay3 l)], ⟨.inr ⟨rfl, rfl, hl⟩, trivial⟩, of_nice (Ob (eqv (slInts [(-1 : Int)]) (AV.sl true (1 : Nat) (1 : Nat) fun (i : Nat) => List.take (1 : Nat) (List.drop (i * (1 : Nat)) [AV.int IntKind.i64 (-1 : Int)])) ∧ (0 : Int) ≤
  (↑l.length : Int) ∧ (↑l.length : Int) ≤ (1000 : Int)) ∧ (∃ (j : { s : Nat × List Int // s.fst ≤ l.length ∧ s.snd.length = l.length ∧ ∀ (k : Nat), k < s.snd.length → (-1 : Int)
  ≤ s.snd.getD k (0 : Int) ∧ s.snd.getD k (0 : Int) ≤ (7000 : Int) }), (l.length = l.length ∧ ∀ (i : Nat), i < l.length → cOpd (l.getD i opd0) = cOpd (l.getD i opd0)) ∧ True ∧ (0
  : Int) = ptrRoom (List.take j.val.fst l) ∧ (l.length = l.length ∧ ∀ (i : Nat), i < l.length → cOpd (l.getD i opd0) = cOpd (l.getD i opd0)) ∧ (↑l.length : Int) = (↑l.length :
  Int) ∧ (0 : Int) = (↑j.val.fst : Int) ∧ List.map cInt (List.replicate l.length (-1 : Int)) = List.map cInt j.val.snd ∧ True) ∧ ∀ (i : { s : Nat × List Int // s.fst ≤ l.length ∧
  s.snd.length = l.length ∧ ∀ (k : Nat), k < s.snd.length → (-1 : Int) ≤ s.snd.getD k (0 : Int) ∧ s.snd.getD k (0 : Int) ≤ (7000 : Int) }), (decide ((↑i.val.fst : Int) <
  (↑l.length : Int)) = true → Ob ((0 : Int) ≤ (↑i.val.fst : Int) ∧ (↑i.val.fst : Int) < (↑l.length : Int)) ∧ (decide ((l.getD i.val.fst opd0).kind = (3 : Int)) = true → Ob (inI64
  (ptrRoom (List.take i.val.fst l) + (16 : Int))) ∧ Ob ((0 : Int) ≤ (↑i.val.fst : Int) ∧ (↑i.val.fst : Int) < (↑(List.map cInt i.val.snd).length : Int)) ∧ Ob (i.val.fst <
  (List.map cInt i.val.snd).length) ∧ Ob (inI64 ((↑i.val.fst : Int) + (1 : Int))) ∧ ∃ (j : { s : Nat × List Int // s.fst ≤ l.length ∧ s.snd.length = l.length ∧ ∀ (k : Nat), k <
  s.snd.length → (-1 : Int) ≤ s.snd.getD k (0 : Int) ∧ s.snd.getD k (0 : Int) ≤ (7000 : Int) }), (l.length - j.val.fst).succ.le (l.length - i.val.fst) ∧ (l.length = l.length ∧ ∀
  (i : Nat), i < l.length → cOpd (l.getD i opd0) = cOpd (l.getD i opd0)) ∧ True ∧ ptrRoom (List.take i.val.fst l) + (16 : Int) = ptrRoom (List.take j.val.fst l) ∧ (l.length =
  l.length ∧ ∀ (i : Nat), i < l.length → cOpd (l.getD i opd0) = cOpd (l.getD i opd0)) ∧ (↑l.length : Int) = (↑l.length : Int) ∧ (↑i.val.fst : Int) + (1 : Int) = (↑j.val.fst :
  Int) ∧ (List.map cInt i.val.snd).set i.val.fst (setRange ((List.map cInt i.val.snd).getD i.val.fst []) (0 : Nat) [AV.int IntKind.i64 (ptrRoom (List.take i.val.fst l))]) =
  List.map cInt j.val.snd ∧ True) ∧ (decide ((l.getD i.val.fst opd0).kind = (3 : Int)) = false → Ob (inI64 ((↑i.val.fst : Int) + (1 : Int))) ∧ ∃ (j : { s : Nat × List Int //
  s.fst ≤ l.length ∧ s.snd.length = l.length ∧ ∀ (k : Nat), k < s.snd.length → (-1 : Int) ≤ s.snd.getD k (0 : Int) ∧ s.snd.getD k (0 : Int) ≤ (7000 : Int) }), (l.length -
  j.val.fst).succ.le (l.length - i.val.fst) ∧ (l.length = l.length ∧ ∀ (i : Nat), i < l.length → cOpd (l.getD i opd0) = cOpd (l.getD i opd0)) ∧ True ∧ ptrRoom (List.take
  i.val.fst l) = ptrRoom (List.take j.val.fst l) ∧ (l.length = l.length ∧ ∀ (i : Nat), i < l.length → cOpd (l.getD i opd0) = cOpd (l.getD i opd0)) ∧ (↑l.length : Int) =
  (↑l.length : Int) ∧ (↑i.val.fst : Int) + (1 : Int) = (↑j.val.fst : Int) ∧ List.map cInt i.val.snd = List.map cInt j.val.snd ∧ True)) ∧ (decide ((↑i.val.fst : Int) < (↑l.length
  : Int)) = false → (∃ (j : { s : Nat × List Int // s.fst ≤ l.length ∧ s.snd.length = l.length ∧ ∀ (k : Nat), k < s.snd.length → (-1 : Int) ≤ s.snd.getD k (0 : Int) ∧ s.snd.getD
  k (0 : Int) ≤ (7000 : Int) }), (l.length = l.length ∧ ∀ (i : Nat), i < l.length → cOpd (l.getD i opd0) = cOpd (l.getD i opd0)) ∧ True ∧ ptrRoom (List.take i.val.fst l) =
  ptrRoom l + sclRoom (List.take j.val.fst l) ∧ (l.length = l.length ∧ ∀ (i : Nat), i < l.length → cOpd (l.getD i opd0) = cOpd (l.getD i opd0)) ∧ (↑l.length : Int) = (↑l.length :
  Int) ∧ (0 : Int) = (↑j.val.fst : Int) ∧ List.map cInt i.val.snd = List.map cInt j.val.snd ∧ True) ∧ ∀ (i : { s : Nat × List Int // s.fst ≤ l.length ∧ s.snd.length = l.length ∧
  ∀ (k : Nat), k < s.snd.length → (-1 : Int) ≤ s.snd.getD k (0 : Int) ∧ s.snd.getD k (0 : Int) ≤ (7000 : Int) }), (decide ((↑i.val.fst : Int) < (↑l.length : Int)) = true → Ob ((0
  : Int) ≤ (↑i.val.fst : Int) ∧ (↑i.val.fst : Int) < (↑l.length : Int)) ∧ (decide ((l.getD i.val.fst opd0).kind = (0 : Int)) = true → Ob (aOpd (l.getD i.val.fst opd0) = aOpd
  (l.getD i.val.fst opd0) ∧ typeErr (l.getD i.val.fst opd0).ty = (0 : Int)) ∧ Ob (inI64 (ptrRoom l + sclRoom (List.take i.val.fst l) + size (l.getD i.val.fst opd0).ty)) ∧ Ob ((0
  : Int) ≤ (↑i.val.fst : Int) ∧ (↑i.val.fst : Int) < (↑(List.map cInt i.val.snd).length : Int)) ∧ Ob (i.val.fst < (List.map cInt i.val.snd).length) ∧ Ob (inI64 ((↑i.val.fst :
  Int) + (1 : Int))) ∧ ∃ (j : { s : Nat × List Int // s.fst ≤ l.length ∧ s.snd.length = l.length ∧ ∀ (k : Nat), k < s.snd.length → (-1 : Int) ≤ s.snd.getD k (0 : Int) ∧
  s.snd.getD k (0 : Int) ≤ (7000 : Int) }), (l.length - j.val.fst).succ.le (l.length - i.val.fst) ∧ (l.length = l.length ∧ ∀ (i : Nat), i < l.length → cOpd (l.getD i opd0) = cOpd
  (l.getD i opd0)) ∧ True ∧ ptrRoom l + sclRoom (List.take i.val.fst l) + size (l.getD i.val.fst opd0).ty = ptrRoom l + sclRoom (List.take j.val.fst l) ∧ (l.length = l.length ∧ ∀
  (i : Nat), i < l.length → cOpd (l.getD i opd0) = cOpd (l.getD i opd0)) ∧ (↑l.length : Int) = (↑l.length : Int) ∧ (↑i.val.fst : Int) + (1 : Int) = (↑j.val.fst : Int) ∧ (List.map
  cInt i.val.snd).set i.val.fst (setRange ((List.map cInt i.val.snd).getD i.val.fst []) (0 : Nat) [AV.int IntKind.i64 (ptrRoom l + sclRoom (List.take i.val.fst l))]) = List.map
  cInt j.val.snd ∧ True) ∧ (decide ((l.getD i.val.fst opd0).kind = (0 : Int)) = false → Ob (inI64 ((↑i.val.fst : Int) + (1 : Int))) ∧ ∃ (j : { s : Nat × List Int // s.fst ≤
  l.length ∧ s.snd.length = l.length ∧ ∀ (k : Nat), k < s.snd.length → (-1 : Int) ≤ s.snd.getD k (0 : Int) ∧ s.snd.getD k (0 : Int) ≤ (7000 : Int) }), (l.length -
  j.val.fst).succ.le (l.length - i.val.fst) ∧ (l.length = l.length ∧ ∀ (i : Nat), i < l.length → cOpd (l.getD i opd0) = cOpd (l.getD i opd0)) ∧ True ∧ ptrRoom l + sclRoom
  (List.take i.val.fst l) = ptrRoom l + sclRoom (List.take j.val.fst l) ∧ (l.length = l.length ∧ ∀ (i : Nat), i < l.length → cOpd (l.getD i opd0) = cOpd (l.getD i opd0)) ∧
  (↑l.length : Int) = (↑l.length : Int) ∧ (↑i.val.fst : Int) + (1 : Int) = (↑j.val.fst : Int) ∧ List.map cInt i.val.snd = List.map cInt j.val.snd ∧ True)) ∧ (decide ((↑i.val.fst
  : Int) < (↑l.length : Int)) = false → (∃ (j : { s : Nat × List Int // s.fst ≤ l.length ∧ s.snd.length = l.length ∧ ∀ (k : Nat), k < s.snd.length → (-1 : Int) ≤ s.snd.getD k (0
  : Int) ∧ s.snd.getD k (0 : Int) ≤ (7000 : Int) + (256 : Int) * (↑s.fst : Int) }), (l.length = l.length ∧ ∀ (i : Nat), i < l.length → cOpd (l.getD i opd0) = cOpd (l.getD i
  opd0)) ∧ True ∧ ptrRoom l + sclRoom (List.take i.val.fst l) = ptrRoom l + sclRoom l ∧ (l.length = l.length ∧ ∀ (i : Nat), i < l.length → cOpd (l.getD i opd0) = cOpd (l.getD i
  opd0)) ∧ (↑l.length : Int) = (↑l.length : Int) ∧ (0 : Int) = (↑j.val.fst : Int) ∧ List.map cInt i.val.snd = List.map cInt j.val.snd ∧ True) ∧ ∀ (i : { s : Nat × List Int //
  s.fst ≤ l.length ∧ s.snd.length = l.length ∧ ∀ (k : Nat), k < s.snd.length → (-1 : Int) ≤ s.snd.getD k (0 : Int) ∧ s.snd.getD k (0 : Int) ≤ (7000 : Int) + (256 : Int) * (↑s.fst
  : Int) }), (decide ((↑i.val.fst : Int) < (↑l.length : Int)) = true → Ob ((0 : Int) ≤ (↑i.val.fst : Int) ∧ (↑i.val.fst : Int) < (↑l.length : Int)) ∧ (decide ((l.getD i.val.fst
  opd0).kind = (1 : Int)) = true → Ob (∃ (l_1 : List Opd), eqv (slOpds l_1) (slOpds l)) ∧ Ob ((0 : Int) ≤ named (opdsOf (slOpds l)) (l.getD i.val.fst opd0).base ∧ named (opdsOf
  (slOpds l)) (l.getD i.val.fst opd0).base < (↑(List.map cInt i.val.snd).length : Int)) ∧ Ob ((named (opdsOf (slOpds l)) (l.getD i.val.fst opd0).base).toNat < (List.map cInt
  i.val.snd).length) ∧ Ob (likes ((env m [((97 : Nat), Crep), ((98 : Nat), CopdSize), ((50 : Nat), Cnamed)]).zero (3 : Nat)) (rdCells ((List.map cInt i.val.snd).getD (named
  (opdsOf (slOpds l)) (l.getD i.val.fst opd0).base).toNat []) (0 : Nat) ((env m [((97 : Nat), Crep), ((98 : Nat), CopdSize), ((50 : Nat), Cnamed)]).sz (3 : Nat))) = rdCells
  ((List.map cInt i.val.snd).getD (named (opdsOf (slOpds l)) (l.getD i.val.fst opd0).base).toNat []) (0 : Nat) ((env m [((97 : Nat), Crep), ((98 : Nat), CopdSize), ((50 : Nat),
  Cnamed)]).sz (3 : Nat))) ∧ Ob (inI64 (avInt (hdAV (rdCells ((List.map cInt i.val.snd).getD (named (opdsOf (slOpds l)) (l.getD i.val.fst opd0).base).toNat []) (0 : Nat) ((env m
  [((97 : Nat), Crep), ((98 : Nat), CopdSize), ((50 : Nat), Cnamed)]).sz (3 : Nat)))) + (l.getD i.val.fst opd0).off)) ∧ Ob ((0 : Int) ≤ (↑i.val.fst : Int) ∧ (↑i.val.fst : Int) <
  (↑(List.map cInt i.val.snd).length : Int)) ∧ Ob (i.val.fst < (List.map cInt i.val.snd).length) ∧ Ob (inI64 ((↑i.val.fst : Int) + (1 : Int))) ∧ ∃ (j : { s : Nat × List Int //
  s.fst ≤ l.length ∧ s.snd.length = l.length ∧ ∀ (k : Nat), k < s.snd.length → (-1 : Int) ≤ s.snd.getD k (0 : Int) ∧ s.snd.getD k (0 : Int) ≤ (7000 : Int) + (256 : Int) * (↑s.fst
  : Int) }), (l.length - j.val.fst).succ.le (l.length - i.val.fst) ∧ (l.length = l.length ∧ ∀ (i : Nat), i < l.length → cOpd (l.getD i opd0) = cOpd (l.getD i opd0)) ∧ True ∧
  ptrRoom l + sclRoom l = ptrRoom l + sclRoom l ∧ (l.length = l.length ∧ ∀ (i : Nat), i < l.length → cOpd (l.getD i opd0) = cOpd (l.getD i opd0)) ∧ (↑l.length : Int) = (↑l.length
  : Int) ∧ (↑i.val.fst : Int) + (1 : Int) = (↑j.val.fst : Int) ∧ (List.map cInt i.val.snd).set i.val.fst (setRange ((List.map cInt i.val.snd).getD i.val.fst []) (0 : Nat) [AV.int
  IntKind.i64 (avInt (hdAV (rdCells ((List.map cInt i.val.snd).getD (named (opdsOf (slOpds l)) (l.getD i.val.fst opd0).base).toNat []) (0 : Nat) ((env m [((97 : Nat), Crep), ((98
  : Nat), CopdSize), ((50 : Nat), Cnamed)]).sz (3 : Nat)))) + (l.getD i.val.fst opd0).off)]) = List.map cInt j.val.snd ∧ True) ∧ (decide ((l.getD i.val.fst opd0).kind = (1 :
  Int)) = false → Ob (inI64 ((↑i.val.fst : Int) + (1 : Int))) ∧ ∃ (j : { s : Nat × List Int // s.fst ≤ l.length ∧ s.snd.length = l.length ∧ ∀ (k : Nat), k < s.snd.length → (-1 :
  Int) ≤ s.snd.getD k (0 : Int) ∧ s.snd.getD k (0 : Int) ≤ (7000 : Int) + (256 : Int) * (↑s.fst : Int) }), (l.length - j.val.fst).succ.le (l.length - i.val.fst) ∧ (l.length =
  l.length ∧ ∀ (i : Nat), i < l.length → cOpd (l.getD i opd0) = cOpd (l.getD i opd0)) ∧ True ∧ ptrRoom l + sclRoom l = ptrRoom l + sclRoom l ∧ (l.length = l.length ∧ ∀ (i : Nat),
  i < l.length → cOpd (l.getD i opd0) = cOpd (l.getD i opd0)) ∧ (↑l.length : Int) = (↑l.length : Int) ∧ (↑i.val.fst : Int) + (1 : Int) = (↑j.val.fst : Int) ∧ List.map cInt
  i.val.snd = List.map cInt j.val.snd ∧ True)) ∧ (decide ((↑i.val.fst : Int) < (↑l.length : Int)) = false → Ob (inI64 (ptrRoom l + sclRoom l + (16 : Int))) ∧ Ob (inI64 (ptrRoom l
  + sclRoom l + (16 : Int) - (1 : Int))) ∧ Ob ((16 : Int) ≠ (0 : Int)) ∧ Ob (inI64 ((ptrRoom l + sclRoom l + (16 : Int) - (1 : Int)).tdiv (16 : Int))) ∧ True ∧ (ptrRoom l +
  sclRoom l + (16 : Int) - (1 : Int)).tdiv (16 : Int) = quads l)))) (by kernel_rfl) ?_⟩
    simp only [Ob_iff, inI64, decide_eq_true_eq, decide_eq_false_iff_not, true_and, implies_true, and_true, opds_sl, exOpds]
    have hscl : ∀ i, i ≤ l.length → _ := fun i hi => hlops ▸ sclRoom_le hR (i := i) (by rw [hlops]; exact hi)
    have hty : ∀ i, i < l.length → (l.getD i opd0).kind = 0 → typeErr (l.getD i opd0).ty = 0 := fun i hi hk => by
      subst hlops
      exact ((opRight (hR i hi)).ty (by unfold isData; simp only [decide_eq_true_eq]; omega)).1
    have hbase : ∀ i, i < l.length → (l.getD i opd0).kind = 1 → 0 ≤ named l (l.getD i opd0).base ∧ 0 ≤ (l.getD i opd0).off ∧ (l.getD i opd0).off ≤ 256 := fun i hi hk => by
      subst hlops
      have R := opRight (hR i hi)
      obtain ⟨b1, b2, b3, b4, b5⟩ := R.base (.inl hk)
      refine ⟨b1, b4, ?_⟩
      rw [if_neg (by omega)] at b5 b3
      have t1 := size_facts (R.ty (by unfold isData; simp only [decide_eq_true_eq]; omega)).1
      have t2 := size_facts ((opRight (hR (named p.ops (p.ops.getD i opd0).base).toNat (by omega))).ty (by unfold isData; simp only [decide_eq_true_eq]; omega)).1
      omega
    have hfull : l.take l.length = l := List.take_length
    have hpl := ptrRoom_le l
    have hsl := hscl l.length (Nat.le_refl _)
    rw [hfull] at hsl
    have hlen0 : (List.replicate l.length (-1 : Int)).length = l.length := by simp
    refine And.intro ⟨⟨rfl, fun i hi => by match i, hi with | 0, _ => rfl⟩, by omega, by omega⟩ (And.intro ⟨⟨(0, List.replicate l.length (-1)), Nat.zero_le _, hlen0, fun k hk => ?_⟩, rfl, rfl, rfl⟩ ?_)
    · rw [hlen0] at hk
      simp [List.getD_eq_getElem?_getD, List.getElem?_replicate, hk]
    · rintro ⟨⟨i, out⟩, hi, ho, hbd⟩
      dsimp only at hi ho hbd ⊢
      refine And.intro (fun h => ?_) (fun h => ?_)
      · have h' : i < l.length := Int.ofNat_lt.1 h
        have hp1 := ptrRoom_le (l.take i)
        have hp2 := ptrRoom_take h'
        have hlt : (l.take i).length ≤ l.length := by simp; omega
        refine And.intro (by omega) (And.intro (fun hk => ?_) (fun hk => ?_))
        · rw [if_pos hk] at hp2
          refine And.intro (by omega) (And.intro (by rw [row_len]; omega) (And.intro (by rw [row_len]; omega) (And.intro (by omega) ?_)))
          exact ⟨⟨(i + 1, out.set i _), h', by simp [ho], set_bound hbd ⟨by omega, by omega⟩⟩, sub_step h', hp2.symm, rfl, row_set (by omega) _⟩
        · rw [if_neg hk] at hp2
          exact ⟨by omega, ⟨(i + 1, out), h', ho, hbd⟩, sub_step h', by rw [hp2]; simp, rfl, rfl⟩
      · have h' : i = l.length := by omega
        subst h'
        refine And.intro ⟨⟨(0, out), Nat.zero_le _, ho, hbd⟩, by rw [hfull]; simp [sclRoom], rfl, rfl⟩ ?_
        clear hbd hi h
        rintro ⟨⟨i, out2⟩, hi, ho2, hbd⟩
        dsimp only at hi ho2 hbd ⊢
        clear ho
        refine And.intro (fun h => ?_) (fun h => ?_)
        · have h' : i < l.length := Int.ofNat_lt.1 h
          have hp1 := hscl i (by omega)
          have hp2 := sclRoom_take h'
          refine And.intro (by omega) (And.intro (fun hk => ?_) (fun hk => ?_))
          · rw [if_pos hk] at hp2
            have ht := hty i h' hk
            have hs := size_facts ht
            refine And.intro ht (And.intro (by omega) (And.intro (by rw [row_len]; omega) (And.intro (by rw [row_len]; omega) (And.intro (by omega) ?_))))
            exact ⟨⟨(i + 1, out2.set i _), h', by simp [ho2], set_bound hbd ⟨by omega, by omega⟩⟩, sub_step h', by rw [hp2]; omega, rfl, row_set (by omega) _⟩
          · rw [if_neg hk] at hp2
            exact ⟨by omega, ⟨(i + 1, out2), h', ho2, hbd⟩, sub_step h', by rw [hp2]; simp, rfl, rfl⟩
        · have h' : i = l.length := by omega
          subst h'
          refine And.intro ⟨⟨(0, out2), Nat.zero_le _, ho2, fun k hk => ⟨(hbd k hk).1, by have := (hbd k hk).2; show out2.getD k 0 ≤ 7000 + 256 * ((0 : Nat) : Int); omega⟩⟩, by rw [hfull], rfl, rfl⟩ ?_
          clear hbd hi h
          rintro ⟨⟨i, out⟩, hi, ho, hbd⟩
          dsimp only at hi ho hbd ⊢
          refine And.intro (fun h => ?_) (fun h => ?_)
          · have h' : i < l.length := Int.ofNat_lt.1 h
            refine And.intro (by omega) (And.intro (fun hk => ?_) (fun hk => ?_))
            · obtain ⟨c1, c2, c3⟩ := hbase i h' hk
              have c4 := named_lt l (l.getD i opd0).base
              have hN : (named l (l.getD i opd0).base).toNat < out.length := by omega
              have hv := hbd _ hN
              rw [row_get hN]
              generalize out.getD (named l (l.getD i opd0).base).toNat 0 = V at *
              refine And.intro (by rw [row_len]; omega) (And.intro (by rw [row_len]; omega) (And.intro rfl (And.intro (show -9223372036854775808 ≤ V + (l.getD i opd0).off ∧ V + (l.getD i opd0).off ≤ 9223372036854775807 by omega) (And.intro (by rw [row_len]; omega) (And.intro (by rw [row_len]; omega) (And.intro (by omega) ?_))))))
              exact ⟨⟨(i + 1, out.set i (V + (l.getD i opd0).off)), h', by simp [ho], set_bound (fun k hk => ⟨(hbd k hk).1, by have := (hbd k hk).2; push_cast; omega⟩) ⟨by omega, by push_cast; omega⟩⟩, sub_step h', rfl, row_set (by omega) _⟩
            · exact ⟨by omega, ⟨(i + 1, out), h', ho, fun k hk => ⟨(hbd k hk).1, by have := (hbd k hk).2; push_cast; omega⟩⟩, sub_step h', rfl, rfl⟩
          · have hd := Int.tdiv_eq_ediv_of_nonneg (a := ptrRoom l + sclRoom l + 16 - 1) (b := 16) (by omega)
            rw [hd]
            exact ⟨by omega, by omega, by omega, by omega, by unfold quads; rw [room_parts]; omega⟩
  · exact (Tr.run_fail hr).elim
end Go.Proofs.YtgcnbicoajjlaaaGreatDoor
end
section
set_option linter.unusedVariables false
set_option linter.unusedSimpArgs false
set_option maxRecDepth 100000
namespace Go.Proofs.YtgcnbicoajjlaaaGreatDoor
open Go Go.Eng Go.Tx
variable {m : Int}
noncomputable def invLayR1 (p : Prg) : Eng.Inv :=
  ⟨{ s : Nat × List Int // s.1 ≤ p.ops.length ∧ s.2.length = p.ops.length ∧ ∀ k, k < s.2.length → -1 ≤ s.2.getD k 0 ∧ s.2.getD k 0 ≤ 7000 },
    fun s => [(1, .ptr 1 0), (4, .row 14), (5, I (ptrRoom (p.ops.take s.1.1))), (6, I s.1.1)], fun s => [(1, .box [slOpds p.ops, slIns p.ins, slMons p.mons] false), (14, .row 3 1 (s.1.2.map cInt) false)], fun s => p.ops.length - s.1.1⟩
noncomputable def invLayR2 (p : Prg) : Eng.Inv :=
  ⟨{ s : Nat × List Int // s.1 ≤ p.ops.length ∧ s.2.length = p.ops.length ∧ ∀ k, k < s.2.length → -1 ≤ s.2.getD k 0 ∧ s.2.getD k 0 ≤ 7000 },
    fun s => [(1, .ptr 1 0), (4, .row 14), (5, I (ptrRoom p.ops + sclRoom (p.ops.take s.1.1))), (7, I s.1.1)], fun s => [(1, .box [slOpds p.ops, slIns p.ins, slMons p.mons] false), (14, .row 3 1 (s.1.2.map cInt) false)], fun s => p.ops.length - s.1.1⟩
noncomputable def invLayR3 (p : Prg) : Eng.Inv :=
  ⟨{ s : Nat × List Int // s.1 ≤ p.ops.length ∧ s.2.length = p.ops.length ∧ ∀ k, k < s.2.length → -1 ≤ s.2.getD k 0 ∧ s.2.getD k 0 ≤ 7000 + 256 * (s.1 : Int) },
    fun s => [(1, .ptr 1 0), (4, .row 14), (5, I (ptrRoom p.ops + sclRoom p.ops)), (9, I s.1.1)], fun s => [(1, .box [slOpds p.ops, slIns p.ins, slMons p.mons] false), (14, .row 3 1 (s.1.2.map cInt) false)], fun s => p.ops.length - s.1.1⟩
theorem rep_row (n : Nat) : List.replicate n [AV.int .i64 0] = (List.replicate n (0 : Int)).map cInt := by rw [List.map_replicate]; rfl
noncomputable def ClayoutR : Con
  | [v] => .need (∃ p : Prg, eqv (aPrg p) v ∧ p.ops.length ≤ 24 ∧ AllRight p) (.ret (.tup [.any, .int .i64 (quads (prgOf v).ops)]))
  | _ => .fail
theorem ok29 : Ok m 29 ClayoutR := fn_ok2 (cons_cons ok57 (cons_cons ok52 cons_nil)) Tryz.func29 (by kernel_rfl) fun xs r hr hp => by
  unfold ClayoutR at hr
  split at hr
  · rename_i v
    obtain ⟨⟨p, hl, h24, hR⟩, hr⟩ := Tr.run_need hr
    obtain rfl := Tr.run_ret hr
    rw [prg_eqv hl]
    refine ⟨[aPrg p], [(0, invLayR1 p), (2, invLayR2 p), (4, invLayR3 p)], prg_args hl _, of_nice (Ob ((0 : Int) ≤ (↑p.ops.length : Int) ∧ (↑p.ops.length : Int) ≤ (↑p.ops.length : Int) ∧ (↑p.ops.length : Int) ≤ (1048576 : Int)) ∧ (∃ (j : { s : Nat × List Int // s.fst ≤
  p.ops.length ∧ s.snd.length = p.ops.length ∧ ∀ (k : Nat), k < s.snd.length → (-1 : Int) ≤ s.snd.getD k (0 : Int) ∧ s.snd.getD k (0 : Int) ≤ (7000 : Int) }), True ∧ True ∧ (0 :
  Int) = ptrRoom (List.take j.val.fst p.ops) ∧ (0 : Int) = (↑j.val.fst : Int) ∧ ((p.ops.length = p.ops.length ∧ ∀ (i : Nat), i < p.ops.length → cOpd (p.ops.getD i opd0) = cOpd
  (p.ops.getD i opd0)) ∧ (p.ins.length = p.ins.length ∧ ∀ (i : Nat), i < p.ins.length → cIns (p.ins.getD i ins0) = cIns (p.ins.getD i ins0)) ∧ p.mons.length = p.mons.length ∧ ∀
  (i : Nat), i < p.mons.length → cMon (p.mons.getD i mon0) = cMon (p.mons.getD i mon0)) ∧ List.replicate p.ops.length ((env m [((57 : Nat), Csize), ((52 : Nat), Cat)]).zero (3 :
  Nat)) = List.map cInt j.val.snd ∧ True) ∧ ∀ (i : { s : Nat × List Int // s.fst ≤ p.ops.length ∧ s.snd.length = p.ops.length ∧ ∀ (k : Nat), k < s.snd.length → (-1 : Int) ≤
  s.snd.getD k (0 : Int) ∧ s.snd.getD k (0 : Int) ≤ (7000 : Int) }), (decide ((↑i.val.fst : Int) < (↑p.ops.length : Int)) = true → Ob ((0 : Int) ≤ (↑i.val.fst : Int) ∧
  (↑i.val.fst : Int) < (↑(List.map cInt i.val.snd).length : Int)) ∧ Ob (i.val.fst < (List.map cInt i.val.snd).length) ∧ Ob ((0 : Int) ≤ (↑i.val.fst : Int) ∧ (↑i.val.fst : Int) <
  (↑p.ops.length : Int)) ∧ (decide ((p.ops.getD i.val.fst opd0).kind = (3 : Int)) = true → Ob ((0 : Int) ≤ (↑i.val.fst : Int) ∧ (↑i.val.fst : Int) < (↑((List.map cInt
  i.val.snd).set i.val.fst (setRange ((List.map cInt i.val.snd).getD i.val.fst []) (0 : Nat) [AV.int IntKind.i64 (-1 : Int)])).length : Int)) ∧ Ob (i.val.fst < ((List.map cInt
  i.val.snd).set i.val.fst (setRange ((List.map cInt i.val.snd).getD i.val.fst []) (0 : Nat) [AV.int IntKind.i64 (-1 : Int)])).length) ∧ Ob (inI64 (ptrRoom (List.take i.val.fst
  p.ops) + (16 : Int))) ∧ Ob (inI64 ((↑i.val.fst : Int) + (1 : Int))) ∧ ∃ (j : { s : Nat × List Int // s.fst ≤ p.ops.length ∧ s.snd.length = p.ops.length ∧ ∀ (k : Nat), k <
  s.snd.length → (-1 : Int) ≤ s.snd.getD k (0 : Int) ∧ s.snd.getD k (0 : Int) ≤ (7000 : Int) }), (p.ops.length - j.val.fst).succ.le (p.ops.length - i.val.fst) ∧ True ∧ True ∧
  ptrRoom (List.take i.val.fst p.ops) + (16 : Int) = ptrRoom (List.take j.val.fst p.ops) ∧ (↑i.val.fst : Int) + (1 : Int) = (↑j.val.fst : Int) ∧ ((p.ops.length = p.ops.length ∧ ∀
  (i : Nat), i < p.ops.length → cOpd (p.ops.getD i opd0) = cOpd (p.ops.getD i opd0)) ∧ (p.ins.length = p.ins.length ∧ ∀ (i : Nat), i < p.ins.length → cIns (p.ins.getD i ins0) =
  cIns (p.ins.getD i ins0)) ∧ p.mons.length = p.mons.length ∧ ∀ (i : Nat), i < p.mons.length → cMon (p.mons.getD i mon0) = cMon (p.mons.getD i mon0)) ∧ ((List.map cInt
  i.val.snd).set i.val.fst (setRange ((List.map cInt i.val.snd).getD i.val.fst []) (0 : Nat) [AV.int IntKind.i64 (-1 : Int)])).set i.val.fst (setRange (((List.map cInt
  i.val.snd).set i.val.fst (setRange ((List.map cInt i.val.snd).getD i.val.fst []) (0 : Nat) [AV.int IntKind.i64 (-1 : Int)])).getD i.val.fst []) (0 : Nat) [AV.int IntKind.i64
  (ptrRoom (List.take i.val.fst p.ops))]) = List.map cInt j.val.snd ∧ True) ∧ (decide ((p.ops.getD i.val.fst opd0).kind = (3 : Int)) = false → Ob (inI64 ((↑i.val.fst : Int) + (1
  : Int))) ∧ ∃ (j : { s : Nat × List Int // s.fst ≤ p.ops.length ∧ s.snd.length = p.ops.length ∧ ∀ (k : Nat), k < s.snd.length → (-1 : Int) ≤ s.snd.getD k (0 : Int) ∧ s.snd.getD
  k (0 : Int) ≤ (7000 : Int) }), (p.ops.length - j.val.fst).succ.le (p.ops.length - i.val.fst) ∧ True ∧ True ∧ ptrRoom (List.take i.val.fst p.ops) = ptrRoom (List.take j.val.fst
  p.ops) ∧ (↑i.val.fst : Int) + (1 : Int) = (↑j.val.fst : Int) ∧ ((p.ops.length = p.ops.length ∧ ∀ (i : Nat), i < p.ops.length → cOpd (p.ops.getD i opd0) = cOpd (p.ops.getD i
  opd0)) ∧ (p.ins.length = p.ins.length ∧ ∀ (i : Nat), i < p.ins.length → cIns (p.ins.getD i ins0) = cIns (p.ins.getD i ins0)) ∧ p.mons.length = p.mons.length ∧ ∀ (i : Nat), i <
  p.mons.length → cMon (p.mons.getD i mon0) = cMon (p.mons.getD i mon0)) ∧ (List.map cInt i.val.snd).set i.val.fst (setRange ((List.map cInt i.val.snd).getD i.val.fst []) (0 :
  Nat) [AV.int IntKind.i64 (-1 : Int)]) = List.map cInt j.val.snd ∧ True)) ∧ (decide ((↑i.val.fst : Int) < (↑p.ops.length : Int)) = false → (∃ (j : { s : Nat × List Int // s.fst
  ≤ p.ops.length ∧ s.snd.length = p.ops.length ∧ ∀ (k : Nat), k < s.snd.length → (-1 : Int) ≤ s.snd.getD k (0 : Int) ∧ s.snd.getD k (0 : Int) ≤ (7000 : Int) }), True ∧ True ∧
  ptrRoom (List.take i.val.fst p.ops) = ptrRoom p.ops + sclRoom (List.take j.val.fst p.ops) ∧ (0 : Int) = (↑j.val.fst : Int) ∧ ((p.ops.length = p.ops.length ∧ ∀ (i : Nat), i <
  p.ops.length → cOpd (p.ops.getD i opd0) = cOpd (p.ops.getD i opd0)) ∧ (p.ins.length = p.ins.length ∧ ∀ (i : Nat), i < p.ins.length → cIns (p.ins.getD i ins0) = cIns (p.ins.getD
  i ins0)) ∧ p.mons.length = p.mons.length ∧ ∀ (i : Nat), i < p.mons.length → cMon (p.mons.getD i mon0) = cMon (p.mons.getD i mon0)) ∧ List.map cInt i.val.snd = List.map cInt
  j.val.snd ∧ True) ∧ ∀ (i : { s : Nat × List Int // s.fst ≤ p.ops.length ∧ s.snd.length = p.ops.length ∧ ∀ (k : Nat), k < s.snd.length → (-1 : Int) ≤ s.snd.getD k (0 : Int) ∧
  s.snd.getD k (0 : Int) ≤ (7000 : Int) }), (decide ((↑i.val.fst : Int) < (↑p.ops.length : Int)) = true → Ob ((0 : Int) ≤ (↑i.val.fst : Int) ∧ (↑i.val.fst : Int) < (↑p.ops.length
  : Int)) ∧ (decide ((p.ops.getD i.val.fst opd0).kind = (0 : Int)) = true → Ob ((0 : Int) ≤ (↑i.val.fst : Int) ∧ (↑i.val.fst : Int) < (↑(List.map cInt i.val.snd).length : Int)) ∧
  Ob (i.val.fst < (List.map cInt i.val.snd).length) ∧ Ob (aTy (p.ops.getD i.val.fst opd0).ty = aTy (p.ops.getD i.val.fst opd0).ty ∧ typeErr (p.ops.getD i.val.fst opd0).ty = (0 :
  Int)) ∧ Ob (inI64 (ptrRoom p.ops + sclRoom (List.take i.val.fst p.ops) + size (p.ops.getD i.val.fst opd0).ty)) ∧ Ob (inI64 ((↑i.val.fst : Int) + (1 : Int))) ∧ ∃ (j : { s : Nat
  × List Int // s.fst ≤ p.ops.length ∧ s.snd.length = p.ops.length ∧ ∀ (k : Nat), k < s.snd.length → (-1 : Int) ≤ s.snd.getD k (0 : Int) ∧ s.snd.getD k (0 : Int) ≤ (7000 : Int)
  }), (p.ops.length - j.val.fst).succ.le (p.ops.length - i.val.fst) ∧ True ∧ True ∧ ptrRoom p.ops + sclRoom (List.take i.val.fst p.ops) + size (p.ops.getD i.val.fst opd0).ty =
  ptrRoom p.ops + sclRoom (List.take j.val.fst p.ops) ∧ (↑i.val.fst : Int) + (1 : Int) = (↑j.val.fst : Int) ∧ ((p.ops.length = p.ops.length ∧ ∀ (i : Nat), i < p.ops.length → cOpd
  (p.ops.getD i opd0) = cOpd (p.ops.getD i opd0)) ∧ (p.ins.length = p.ins.length ∧ ∀ (i : Nat), i < p.ins.length → cIns (p.ins.getD i ins0) = cIns (p.ins.getD i ins0)) ∧
  p.mons.length = p.mons.length ∧ ∀ (i : Nat), i < p.mons.length → cMon (p.mons.getD i mon0) = cMon (p.mons.getD i mon0)) ∧ (List.map cInt i.val.snd).set i.val.fst (setRange
  ((List.map cInt i.val.snd).getD i.val.fst []) (0 : Nat) [AV.int IntKind.i64 (ptrRoom p.ops + sclRoom (List.take i.val.fst p.ops))]) = List.map cInt j.val.snd ∧ True) ∧ (decide
  ((p.ops.getD i.val.fst opd0).kind = (0 : Int)) = false → Ob (inI64 ((↑i.val.fst : Int) + (1 : Int))) ∧ ∃ (j : { s : Nat × List Int // s.fst ≤ p.ops.length ∧ s.snd.length =
  p.ops.length ∧ ∀ (k : Nat), k < s.snd.length → (-1 : Int) ≤ s.snd.getD k (0 : Int) ∧ s.snd.getD k (0 : Int) ≤ (7000 : Int) }), (p.ops.length - j.val.fst).succ.le (p.ops.length
  - i.val.fst) ∧ True ∧ True ∧ ptrRoom p.ops + sclRoom (List.take i.val.fst p.ops) = ptrRoom p.ops + sclRoom (List.take j.val.fst p.ops) ∧ (↑i.val.fst : Int) + (1 : Int) =
  (↑j.val.fst : Int) ∧ ((p.ops.length = p.ops.length ∧ ∀ (i : Nat), i < p.ops.length → cOpd (p.ops.getD i opd0) = cOpd (p.ops.getD i opd0)) ∧ (p.ins.length = p.ins.length ∧ ∀ (i
  : Nat), i < p.ins.length → cIns (p.ins.getD i ins0) = cIns (p.ins.getD i ins0)) ∧ p.mons.length = p.mons.length ∧ ∀ (i : Nat), i < p.mons.length → cMon (p.mons.getD i mon0) =
  cMon (p.mons.getD i mon0)) ∧ List.map cInt i.val.snd = List.map cInt j.val.snd ∧ True)) ∧ (decide ((↑i.val.fst : Int) < (↑p.ops.length : Int)) = false → (∃ (j : { s : Nat ×
  List Int // s.fst ≤ p.ops.length ∧ s.snd.length = p.ops.length ∧ ∀ (k : Nat), k < s.snd.length → (-1 : Int) ≤ s.snd.getD k (0 : Int) ∧ s.snd.getD k (0 : Int) ≤ (7000 : Int) +
  (256 : Int) * (↑s.fst : Int) }), True ∧ True ∧ ptrRoom p.ops + sclRoom (List.take i.val.fst p.ops) = ptrRoom p.ops + sclRoom p.ops ∧ (0 : Int) = (↑j.val.fst : Int) ∧
  ((p.ops.length = p.ops.length ∧ ∀ (i : Nat), i < p.ops.length → cOpd (p.ops.getD i opd0) = cOpd (p.ops.getD i opd0)) ∧ (p.ins.length = p.ins.length ∧ ∀ (i : Nat), i <
  p.ins.length → cIns (p.ins.getD i ins0) = cIns (p.ins.getD i ins0)) ∧ p.mons.length = p.mons.length ∧ ∀ (i : Nat), i < p.mons.length → cMon (p.mons.getD i mon0) = cMon
  (p.mons.getD i mon0)) ∧ List.map cInt i.val.snd = List.map cInt j.val.snd ∧ True) ∧ ∀ (i : { s : Nat × List Int // s.fst ≤ p.ops.length ∧ s.snd.length = p.ops.length ∧ ∀ (k :
  Nat), k < s.snd.length → (-1 : Int) ≤ s.snd.getD k (0 : Int) ∧ s.snd.getD k (0 : Int) ≤ (7000 : Int) + (256 : Int) * (↑s.fst : Int) }), (decide ((↑i.val.fst : Int) <
  (↑p.ops.length : Int)) = true → Ob ((0 : Int) ≤ (↑i.val.fst : Int) ∧ (↑i.val.fst : Int) < (↑p.ops.length : Int)) ∧ (decide ((p.ops.getD i.val.fst opd0).kind = (1 : Int)) = true
  → Ob (∃ (p_1 : Prg), eqv (aPrg p_1) (aPrg p)) ∧ Ob ((0 : Int) ≤ named (prgOf (aPrg p)).ops (p.ops.getD i.val.fst opd0).base ∧ named (prgOf (aPrg p)).ops (p.ops.getD i.val.fst
  opd0).base < (↑(List.map cInt i.val.snd).length : Int)) ∧ Ob ((named (prgOf (aPrg p)).ops (p.ops.getD i.val.fst opd0).base).toNat < (List.map cInt i.val.snd).length) ∧ Ob
  (likes ((env m [((57 : Nat), Csize), ((52 : Nat), Cat)]).zero (3 : Nat)) (rdCells ((List.map cInt i.val.snd).getD (named (prgOf (aPrg p)).ops (p.ops.getD i.val.fst
  opd0).base).toNat []) (0 : Nat) ((env m [((57 : Nat), Csize), ((52 : Nat), Cat)]).sz (3 : Nat))) = rdCells ((List.map cInt i.val.snd).getD (named (prgOf (aPrg p)).ops
  (p.ops.getD i.val.fst opd0).base).toNat []) (0 : Nat) ((env m [((57 : Nat), Csize), ((52 : Nat), Cat)]).sz (3 : Nat))) ∧ Ob (inI64 (avInt (hdAV (rdCells ((List.map cInt
  i.val.snd).getD (named (prgOf (aPrg p)).ops (p.ops.getD i.val.fst opd0).base).toNat []) (0 : Nat) ((env m [((57 : Nat), Csize), ((52 : Nat), Cat)]).sz (3 : Nat)))) +
  (p.ops.getD i.val.fst opd0).off)) ∧ Ob ((0 : Int) ≤ (↑i.val.fst : Int) ∧ (↑i.val.fst : Int) < (↑(List.map cInt i.val.snd).length : Int)) ∧ Ob (i.val.fst < (List.map cInt
  i.val.snd).length) ∧ Ob (inI64 ((↑i.val.fst : Int) + (1 : Int))) ∧ ∃ (j : { s : Nat × List Int // s.fst ≤ p.ops.length ∧ s.snd.length = p.ops.length ∧ ∀ (k : Nat), k <
  s.snd.length → (-1 : Int) ≤ s.snd.getD k (0 : Int) ∧ s.snd.getD k (0 : Int) ≤ (7000 : Int) + (256 : Int) * (↑s.fst : Int) }), (p.ops.length - j.val.fst).succ.le (p.ops.length -
  i.val.fst) ∧ True ∧ True ∧ ptrRoom p.ops + sclRoom p.ops = ptrRoom p.ops + sclRoom p.ops ∧ (↑i.val.fst : Int) + (1 : Int) = (↑j.val.fst : Int) ∧ ((p.ops.length = p.ops.length ∧
  ∀ (i : Nat), i < p.ops.length → cOpd (p.ops.getD i opd0) = cOpd (p.ops.getD i opd0)) ∧ (p.ins.length = p.ins.length ∧ ∀ (i : Nat), i < p.ins.length → cIns (p.ins.getD i ins0) =
  cIns (p.ins.getD i ins0)) ∧ p.mons.length = p.mons.length ∧ ∀ (i : Nat), i < p.mons.length → cMon (p.mons.getD i mon0) = cMon (p.mons.getD i mon0)) ∧ (List.map cInt
  i.val.snd).set i.val.fst (setRange ((List.map cInt i.val.snd).getD i.val.fst []) (0 : Nat) [AV.int IntKind.i64 (avInt (hdAV (rdCells ((List.map cInt i.val.snd).getD (named
  (prgOf (aPrg p)).ops (p.ops.getD i.val.fst opd0).base).toNat []) (0 : Nat) ((env m [((57 : Nat), Csize), ((52 : Nat), Cat)]).sz (3 : Nat)))) + (p.ops.getD i.val.fst
  opd0).off)]) = List.map cInt j.val.snd ∧ True) ∧ (decide ((p.ops.getD i.val.fst opd0).kind = (1 : Int)) = false → Ob (inI64 ((↑i.val.fst : Int) + (1 : Int))) ∧ ∃ (j : { s : Nat
  × List Int // s.fst ≤ p.ops.length ∧ s.snd.length = p.ops.length ∧ ∀ (k : Nat), k < s.snd.length → (-1 : Int) ≤ s.snd.getD k (0 : Int) ∧ s.snd.getD k (0 : Int) ≤ (7000 : Int) +
  (256 : Int) * (↑s.fst : Int) }), (p.ops.length - j.val.fst).succ.le (p.ops.length - i.val.fst) ∧ True ∧ True ∧ ptrRoom p.ops + sclRoom p.ops = ptrRoom p.ops + sclRoom p.ops ∧
  (↑i.val.fst : Int) + (1 : Int) = (↑j.val.fst : Int) ∧ ((p.ops.length = p.ops.length ∧ ∀ (i : Nat), i < p.ops.length → cOpd (p.ops.getD i opd0) = cOpd (p.ops.getD i opd0)) ∧
  (p.ins.length = p.ins.length ∧ ∀ (i : Nat), i < p.ins.length → cIns (p.ins.getD i ins0) = cIns (p.ins.getD i ins0)) ∧ p.mons.length = p.mons.length ∧ ∀ (i : Nat), i <
  p.mons.length → cMon (p.mons.getD i mon0) = cMon (p.mons.getD i mon0)) ∧ List.map cInt i.val.snd = List.map cInt j.val.snd ∧ True)) ∧ (decide ((↑i.val.fst : Int) <
  (↑p.ops.length : Int)) = false → Ob (inI64 (ptrRoom p.ops + sclRoom p.ops + (16 : Int))) ∧ Ob (inI64 (ptrRoom p.ops + sclRoom p.ops + (16 : Int) - (1 : Int))) ∧ Ob ((16 : Int)
  ≠ (0 : Int)) ∧ Ob (inI64 ((ptrRoom p.ops + sclRoom p.ops + (16 : Int) - (1 : Int)).tdiv (16 : Int))) ∧ True ∧ (ptrRoom p.ops + sclRoom p.ops + (16 : Int) - (1 : Int)).tdiv (16
  : Int) = quads p.ops)))) (by kernel_rfl) ?_⟩
    clear hl hr hp
    have hscl : ∀ i, i ≤ p.ops.length → _ := fun i hi => sclRoom_le hR (i := i) hi
    have hty : ∀ i, i < p.ops.length → (p.ops.getD i opd0).kind = 0 → typeErr (p.ops.getD i opd0).ty = 0 := fun i hi hk => by
      exact ((opRight (hR i hi)).ty (by unfold isData; simp only [decide_eq_true_eq]; omega)).1
    have hbase : ∀ i, i < p.ops.length → (p.ops.getD i opd0).kind = 1 → 0 ≤ named p.ops (p.ops.getD i opd0).base ∧ 0 ≤ (p.ops.getD i opd0).off ∧ (p.ops.getD i opd0).off ≤ 256 := fun i hi hk => by
      have R := opRight (hR i hi)
      obtain ⟨b1, b2, b3, b4, b5⟩ := R.base (.inl hk)
      refine ⟨b1, b4, ?_⟩
      rw [if_neg (by omega)] at b5 b3
      have t1 := size_facts (R.ty (by unfold isData; simp only [decide_eq_true_eq]; omega)).1
      have t2 := size_facts ((opRight (hR (named p.ops (p.ops.getD i opd0).base).toNat (by omega))).ty (by unfold isData; simp only [decide_eq_true_eq]; omega)).1
      omega
    simp only [prg_c, exPrg, Ob_iff, inI64, decide_eq_true_eq, decide_eq_false_iff_not, true_and, implies_true, and_true, opds_sl, exOpds]
    generalize hlops : p.ops = l at *
    have hfull : l.take l.length = l := List.take_length
    have hpl := ptrRoom_le l
    have hsl := hscl l.length (Nat.le_refl _)
    rw [hfull] at hsl
    have hlen0 : (List.replicate l.length (0 : Int)).length = l.length := by simp
    refine And.intro (by omega) (And.intro ⟨⟨(0, List.replicate l.length 0), Nat.zero_le _, hlen0, fun k hk => ?_⟩, rfl, rfl, rep_row l.length⟩ ?_)
    · rw [hlen0] at hk
      simp [List.getD_eq_getElem?_getD, List.getElem?_replicate, hk]
    · rintro ⟨⟨i, out⟩, hi, ho, hbd⟩
      dsimp only at hi ho hbd ⊢
      refine And.intro (fun h => ?_) (fun h => ?_)
      · have h' : i < l.length := Int.ofNat_lt.1 h
        have hp1 := ptrRoom_le (l.take i)
        have hp2 := ptrRoom_take h'
        have hlt : (l.take i).length ≤ l.length := by simp; omega
        have hb2 := set_bound (i := i) (x := -1) hbd ⟨by omega, by omega⟩
        rw [row_set (by omega)]
        refine And.intro (by rw [row_len]; omega) (And.intro (by rw [row_len]; omega) (And.intro (by omega) (And.intro (fun hk => ?_) (fun hk => ?_))))
        · rw [if_pos hk] at hp2
          have hl2 : (out.set i (-1)).length = l.length := by simp [ho]
          refine And.intro (by rw [row_len]; omega) (And.intro (by rw [row_len]; omega) (And.intro (by omega) (And.intro (by omega) ?_)))
          exact ⟨⟨(i + 1, (out.set i (-1)).set i _), h', by simp [ho], set_bound hb2 ⟨by omega, by omega⟩⟩, sub_step h', hp2.symm, rfl, row_set (by omega) _⟩
        · rw [if_neg hk] at hp2
          exact ⟨by omega, ⟨(i + 1, out.set i (-1)), h', by simp [ho], hb2⟩, sub_step h', by rw [hp2]; simp, rfl, rfl⟩
      · have h' : i = l.length := by omega
        subst h'
        refine And.intro ⟨⟨(0, out), Nat.zero_le _, ho, hbd⟩, by rw [hfull]; simp [sclRoom], rfl, rfl⟩ ?_
        clear hbd hi h
        rintro ⟨⟨i, out2⟩, hi, ho2, hbd⟩
        dsimp only at hi ho2 hbd ⊢
        clear ho
        refine And.intro (fun h => ?_) (fun h => ?_)
        · have h' : i < l.length := Int.ofNat_lt.1 h
          have hp1 := hscl i (by omega)
          have hp2 := sclRoom_take h'
          refine And.intro (by omega) (And.intro (fun hk => ?_) (fun hk => ?_))
          · rw [if_pos hk] at hp2
            have ht := hty i h' hk
            have hs := size_facts ht
            refine And.intro (by rw [row_len]; omega) (And.intro (by rw [row_len]; omega) (And.intro ht (And.intro (by omega) (And.intro (by omega) ?_))))
            exact ⟨⟨(i + 1, out2.set i _), h', by simp [ho2], set_bound hbd ⟨by omega, by omega⟩⟩, sub_step h', by rw [hp2]; omega, rfl, row_set (by omega) _⟩
          · rw [if_neg hk] at hp2
            exact ⟨by omega, ⟨(i + 1, out2), h', ho2, hbd⟩, sub_step h', by rw [hp2]; simp, rfl, rfl⟩
        · have h' : i = l.length := by omega
          subst h'
          refine And.intro ⟨⟨(0, out2), Nat.zero_le _, ho2, fun k hk => ⟨(hbd k hk).1, by have := (hbd k hk).2; show out2.getD k 0 ≤ 7000 + 256 * ((0 : Nat) : Int); omega⟩⟩, by rw [hfull], rfl, rfl⟩ ?_
          clear hbd hi h
          rintro ⟨⟨i, out⟩, hi, ho, hbd⟩
          dsimp only at hi ho hbd ⊢
          refine And.intro (fun h => ?_) (fun h => ?_)
          · have h' : i < l.length := Int.ofNat_lt.1 h
            refine And.intro (by omega) (And.intro (fun hk => ?_) (fun hk => ?_))
            · obtain ⟨c1, c2, c3⟩ := hbase i h' hk
              have c4 := named_lt l (l.getD i opd0).base
              have hN : (named l (l.getD i opd0).base).toNat < out.length := by omega
              have hv := hbd _ hN
              rw [row_get hN]
              generalize out.getD (named l (l.getD i opd0).base).toNat 0 = V at *
              refine And.intro (by rw [row_len]; omega) (And.intro (by rw [row_len]; omega) (And.intro rfl (And.intro (show -9223372036854775808 ≤ V + (l.getD i opd0).off ∧ V + (l.getD i opd0).off ≤ 9223372036854775807 by omega) (And.intro (by rw [row_len]; omega) (And.intro (by rw [row_len]; omega) (And.intro (by omega) ?_))))))
              exact ⟨⟨(i + 1, out.set i (V + (l.getD i opd0).off)), h', by simp [ho], set_bound (fun k hk => ⟨(hbd k hk).1, by have := (hbd k hk).2; push_cast; omega⟩) ⟨by omega, by push_cast; omega⟩⟩, sub_step h', rfl, row_set (by omega) _⟩
            · exact ⟨by omega, ⟨(i + 1, out), h', ho, fun k hk => ⟨(hbd k hk).1, by have := (hbd k hk).2; push_cast; omega⟩⟩, sub_step h', rfl, rfl⟩
          · have hd := Int.tdiv_eq_ediv_of_nonneg (a := ptrRoom l + sclRoom l + 16 - 1) (b := 16) (by omega)
            rw [hd]
            exact ⟨by omega, by omega, by omega, by omega, by unfold quads; rw [room_parts]; omega⟩
  · exact (Tr.run_fail hr).elim
end Go.Proofs.YtgcnbicoajjlaaaGreatDoor
end
section
set_option linter.unusedVariables false
set_option linter.unusedSimpArgs false
set_option maxRecDepth 100000
namespace Go.Proofs.YtgcnbicoajjlaaaGreatDoor
open Go Go.Eng Go.Tx
variable {m : Int}
noncomputable def bxPrg (p : Prg) : Blk := .box [slOpds p.ops, slIns p.ins, slMons p.mons] false
noncomputable def inv31a (p : Prg) : Eng.Inv :=
  ⟨{ i : Nat // i ≤ p.ops.length }, fun i => [(1, .ptr 1 0), (2, .ptr 2 0), (47, I p.ops.length), (48, I i.1)], fun i => [(1, bxPrg p), (2, .box [I 0, I 0] false)], fun i => p.ops.length - i.1⟩
noncomputable def inv31b (p : Prg) : Eng.Inv :=
  ⟨{ i : Nat // i ≤ p.ins.length }, fun i => [(1, .ptr 1 0), (2, .ptr 2 0), (70, slIns p.ins), (71, I p.ins.length), (72, I i.1)], fun i => [(1, bxPrg p), (2, .box [I 0, I 0] false)], fun i => p.ins.length - i.1⟩
noncomputable def inv31c (p : Prg) : Eng.Inv :=
  ⟨{ i : Nat // i ≤ p.mons.length }, fun i => [(1, .ptr 1 0), (2, .ptr 2 0), (87, slMons p.mons), (88, I p.mons.length), (89, I i.1)], fun i => [(1, bxPrg p), (2, .box [I 0, I 0] false)], fun i => p.mons.length - i.1⟩
noncomputable def Ccheck : Con
  | [v] => .need (∃ p : Prg, eqv (aPrg p) v ∧ Valid p) (.ret (.tup [.agg [.int .i64 0, .int .i64 0], .int .i64 0]))
  | _ => .fail
theorem ok31 (h97 : Ok m 97 Crep) : Ok m 31 Ccheck := fn_ok2 (cons_cons ok62 (cons_cons ok61 (cons_cons ok63 (cons_cons (ok64 h97) (cons_cons ok65 (cons_cons ok66 cons_nil)))))) Tryz.func31 (by kernel_rfl) fun xs r hr hp => by
  unfold Ccheck at hr
  split at hr
  · rename_i v
    obtain ⟨⟨p, hl, hV⟩, hr⟩ := Tr.run_need hr
    obtain rfl := Tr.run_ret hr
    refine ⟨[aPrg p], [(0, inv31a p), (2, inv31b p), (4, inv31c p)], prg_args hl _, of_nice (Ob (∃ (l : List Int), eqv (slInts l) (AV.sl true (1 : Nat) (2 : Nat) fun (i : Nat) => List.take (1 : Nat) (List.drop (i * (1 : Nat)) [AV.int IntKind.i64 (bif decide ((24 : Int)
  < (↑p.ops.length : Int)) || decide ((40 : Int) < (↑p.ins.length : Int)) || decide ((6 : Int) < (↑p.mons.length : Int)) then (2 : Int) else (0 : Int)), AV.int IntKind.i64 (bif
  decide ((↑p.ins.length : Int) = (0 : Int)) then (1 : Int) else (0 : Int))]))) ∧ ((!decide (firstNZ [bif decide ((24 : Int) < (↑p.ops.length : Int)) || decide ((40 : Int) <
  (↑p.ins.length : Int)) || decide ((6 : Int) < (↑p.mons.length : Int)) then (2 : Int) else (0 : Int), bif decide ((↑p.ins.length : Int) = (0 : Int)) then (1 : Int) else (0 :
  Int)] = (0 : Int))) = true → ((0 : Int) = (0 : Int) ∧ (0 : Int) = (0 : Int)) ∧ firstNZ [bif decide ((24 : Int) < (↑p.ops.length : Int)) || decide ((40 : Int) < (↑p.ins.length :
  Int)) || decide ((6 : Int) < (↑p.mons.length : Int)) then (2 : Int) else (0 : Int), bif decide ((↑p.ins.length : Int) = (0 : Int)) then (1 : Int) else (0 : Int)] = (0 : Int)) ∧
  ((!decide (firstNZ [bif decide ((24 : Int) < (↑p.ops.length : Int)) || decide ((40 : Int) < (↑p.ins.length : Int)) || decide ((6 : Int) < (↑p.mons.length : Int)) then (2 : Int)
  else (0 : Int), bif decide ((↑p.ins.length : Int) = (0 : Int)) then (1 : Int) else (0 : Int)] = (0 : Int))) = false → (∃ (j : { i : Nat // i ≤ p.ops.length }), True ∧ True ∧
  (↑p.ops.length : Int) = (↑p.ops.length : Int) ∧ (0 : Int) = (↑j.val : Int) ∧ ((p.ops.length = p.ops.length ∧ ∀ (i : Nat), i < p.ops.length → cOpd (p.ops.getD i opd0) = cOpd
  (p.ops.getD i opd0)) ∧ (p.ins.length = p.ins.length ∧ ∀ (i : Nat), i < p.ins.length → cIns (p.ins.getD i ins0) = cIns (p.ins.getD i ins0)) ∧ p.mons.length = p.mons.length ∧ ∀
  (i : Nat), i < p.mons.length → cMon (p.mons.getD i mon0) = cMon (p.mons.getD i mon0)) ∧ ((0 : Int) = (0 : Int) ∧ (0 : Int) = (0 : Int)) ∧ True) ∧ ∀ (i : { i : Nat // i ≤
  p.ops.length }), (decide ((↑i.val : Int) < (↑p.ops.length : Int)) = true → Ob (∃ (p_1 : Prg), eqv (aPrg p_1) (aPrg p) ∧ (0 : Int) ≤ (↑i.val : Int) ∧ RightTo p_1 i.val) ∧
  ((!decide ((0 : Int) = (0 : Int))) = true → ((1 : Int) = (0 : Int) ∧ (↑i.val : Int) = (0 : Int)) ∧ (0 : Int) = (0 : Int)) ∧ ((!decide ((0 : Int) = (0 : Int))) = false → Ob
  (inI64 ((↑i.val : Int) + (1 : Int))) ∧ ∃ (j : { i : Nat // i ≤ p.ops.length }), (p.ops.length - j.val).succ.le (p.ops.length - i.val) ∧ True ∧ True ∧ (↑p.ops.length : Int) =
  (↑p.ops.length : Int) ∧ (↑i.val : Int) + (1 : Int) = (↑j.val : Int) ∧ ((p.ops.length = p.ops.length ∧ ∀ (i : Nat), i < p.ops.length → cOpd (p.ops.getD i opd0) = cOpd
  (p.ops.getD i opd0)) ∧ (p.ins.length = p.ins.length ∧ ∀ (i : Nat), i < p.ins.length → cIns (p.ins.getD i ins0) = cIns (p.ins.getD i ins0)) ∧ p.mons.length = p.mons.length ∧ ∀
  (i : Nat), i < p.mons.length → cMon (p.mons.getD i mon0) = cMon (p.mons.getD i mon0)) ∧ ((0 : Int) = (0 : Int) ∧ (0 : Int) = (0 : Int)) ∧ True)) ∧ (decide ((↑i.val : Int) <
  (↑p.ops.length : Int)) = false → Ob (∃ (p_1 : Prg), eqv (slOpds p_1.ops) (slOpds p.ops) ∧ p_1.ops.length ≤ (24 : Nat) ∧ AllRight p_1) ∧ (decide ((24 : Int) < quads (opdsOf
  (slOpds p.ops))) = true → ((0 : Int) = (0 : Int) ∧ (0 : Int) = (0 : Int)) ∧ (30 : Int) = (0 : Int)) ∧ (decide ((24 : Int) < quads (opdsOf (slOpds p.ops))) = false → (∃ (j : { i
  : Nat // i ≤ p.ins.length }), True ∧ True ∧ (p.ins.length = p.ins.length ∧ ∀ (i : Nat), i < p.ins.length → cIns (p.ins.getD i ins0) = cIns (p.ins.getD i ins0)) ∧ (↑p.ins.length
  : Int) = (↑p.ins.length : Int) ∧ (0 : Int) = (↑j.val : Int) ∧ ((p.ops.length = p.ops.length ∧ ∀ (i : Nat), i < p.ops.length → cOpd (p.ops.getD i opd0) = cOpd (p.ops.getD i
  opd0)) ∧ (p.ins.length = p.ins.length ∧ ∀ (i : Nat), i < p.ins.length → cIns (p.ins.getD i ins0) = cIns (p.ins.getD i ins0)) ∧ p.mons.length = p.mons.length ∧ ∀ (i : Nat), i <
  p.mons.length → cMon (p.mons.getD i mon0) = cMon (p.mons.getD i mon0)) ∧ ((0 : Int) = (0 : Int) ∧ (0 : Int) = (0 : Int)) ∧ True) ∧ ∀ (i : { i : Nat // i ≤ p.ins.length }),
  (decide ((↑i.val : Int) < (↑p.ins.length : Int)) = true → Ob ((0 : Int) ≤ (↑i.val : Int) ∧ (↑i.val : Int) < (↑p.ins.length : Int)) ∧ Ob (∃ (p_1 : Prg), ∃ (x : Ins), eqv (aPrg
  p_1) (aPrg p) ∧ eqv (aIns x) (AV.agg [AV.int IntKind.i64 (p.ins.getD i.val ins0).op, slInts (p.ins.getD i.val ins0).args]) ∧ insErr p_1 x = (0 : Int) ∧ AllRight p_1) ∧
  ((!decide ((0 : Int) = (0 : Int))) = true → ((2 : Int) = (0 : Int) ∧ (↑i.val : Int) = (0 : Int)) ∧ (0 : Int) = (0 : Int)) ∧ ((!decide ((0 : Int) = (0 : Int))) = false → Ob
  (inI64 ((↑i.val : Int) + (1 : Int))) ∧ ∃ (j : { i : Nat // i ≤ p.ins.length }), (p.ins.length - j.val).succ.le (p.ins.length - i.val) ∧ True ∧ True ∧ (p.ins.length =
  p.ins.length ∧ ∀ (i : Nat), i < p.ins.length → cIns (p.ins.getD i ins0) = cIns (p.ins.getD i ins0)) ∧ (↑p.ins.length : Int) = (↑p.ins.length : Int) ∧ (↑i.val : Int) + (1 : Int)
  = (↑j.val : Int) ∧ ((p.ops.length = p.ops.length ∧ ∀ (i : Nat), i < p.ops.length → cOpd (p.ops.getD i opd0) = cOpd (p.ops.getD i opd0)) ∧ (p.ins.length = p.ins.length ∧ ∀ (i :
  Nat), i < p.ins.length → cIns (p.ins.getD i ins0) = cIns (p.ins.getD i ins0)) ∧ p.mons.length = p.mons.length ∧ ∀ (i : Nat), i < p.mons.length → cMon (p.mons.getD i mon0) =
  cMon (p.mons.getD i mon0)) ∧ ((0 : Int) = (0 : Int) ∧ (0 : Int) = (0 : Int)) ∧ True)) ∧ (decide ((↑i.val : Int) < (↑p.ins.length : Int)) = false → (∃ (j : { i : Nat // i ≤
  p.mons.length }), True ∧ True ∧ (p.mons.length = p.mons.length ∧ ∀ (i : Nat), i < p.mons.length → cMon (p.mons.getD i mon0) = cMon (p.mons.getD i mon0)) ∧ (↑p.mons.length :
  Int) = (↑p.mons.length : Int) ∧ (0 : Int) = (↑j.val : Int) ∧ ((p.ops.length = p.ops.length ∧ ∀ (i : Nat), i < p.ops.length → cOpd (p.ops.getD i opd0) = cOpd (p.ops.getD i
  opd0)) ∧ (p.ins.length = p.ins.length ∧ ∀ (i : Nat), i < p.ins.length → cIns (p.ins.getD i ins0) = cIns (p.ins.getD i ins0)) ∧ p.mons.length = p.mons.length ∧ ∀ (i : Nat), i <
  p.mons.length → cMon (p.mons.getD i mon0) = cMon (p.mons.getD i mon0)) ∧ ((0 : Int) = (0 : Int) ∧ (0 : Int) = (0 : Int)) ∧ True) ∧ ∀ (i : { i : Nat // i ≤ p.mons.length }),
  (decide ((↑i.val : Int) < (↑p.mons.length : Int)) = true → Ob ((0 : Int) ≤ (↑i.val : Int) ∧ (↑i.val : Int) < (↑p.mons.length : Int)) ∧ Ob ((∃ (p_1 : Prg), eqv (aPrg p_1) (aPrg
  p)) ∧ aMon (p.mons.getD i.val mon0) = aMon (p.mons.getD i.val mon0)) ∧ ((!decide ((bif monOk (prgOf (aPrg p)) (p.mons.getD i.val mon0) then (0 : Int) else (3 : Int)) = (0 :
  Int))) = true → ((3 : Int) = (0 : Int) ∧ (↑i.val : Int) = (0 : Int)) ∧ (bif monOk (prgOf (aPrg p)) (p.mons.getD i.val mon0) then (0 : Int) else (3 : Int)) = (0 : Int)) ∧
  ((!decide ((bif monOk (prgOf (aPrg p)) (p.mons.getD i.val mon0) then (0 : Int) else (3 : Int)) = (0 : Int))) = false → Ob (inI64 ((↑i.val : Int) + (1 : Int))) ∧ ∃ (j : { i :
  Nat // i ≤ p.mons.length }), (p.mons.length - j.val).succ.le (p.mons.length - i.val) ∧ True ∧ True ∧ (p.mons.length = p.mons.length ∧ ∀ (i : Nat), i < p.mons.length → cMon
  (p.mons.getD i mon0) = cMon (p.mons.getD i mon0)) ∧ (↑p.mons.length : Int) = (↑p.mons.length : Int) ∧ (↑i.val : Int) + (1 : Int) = (↑j.val : Int) ∧ ((p.ops.length =
  p.ops.length ∧ ∀ (i : Nat), i < p.ops.length → cOpd (p.ops.getD i opd0) = cOpd (p.ops.getD i opd0)) ∧ (p.ins.length = p.ins.length ∧ ∀ (i : Nat), i < p.ins.length → cIns
  (p.ins.getD i ins0) = cIns (p.ins.getD i ins0)) ∧ p.mons.length = p.mons.length ∧ ∀ (i : Nat), i < p.mons.length → cMon (p.mons.getD i mon0) = cMon (p.mons.getD i mon0)) ∧ ((0
  : Int) = (0 : Int) ∧ (0 : Int) = (0 : Int)) ∧ True)) ∧ (decide ((↑i.val : Int) < (↑p.mons.length : Int)) = false → ((0 : Int) = (0 : Int) ∧ (0 : Int) = (0 : Int)) ∧ (0 : Int) =
  (0 : Int))))))) (by kernel_rfl) ?_⟩
    simp only [bor_c, prg_c, exPrg, ex2, firstTwo, Ob_iff, inI64, decide_eq_true_eq, decide_eq_false_iff_not, Bool.not_eq_true', Bool.not_eq_false', true_and, implies_true, and_true, opds_sl, exOpds]
    have h24 := hV.nops
    have h40 := hV.nins
    have h6 := hV.nmons
    have hne : 0 < p.ins.length := List.length_pos_iff.2 hV.some
    have hq := hV.room
    have z1 : (decide (24 < (p.ops.length : Int)) || decide (40 < (p.ins.length : Int)) || decide (6 < (p.mons.length : Int))) = false := by simp only [Bool.or_eq_false_iff, decide_eq_false_iff_not]; omega
    have z2 : decide ((p.ins.length : Int) = 0) = false := decide_eq_false (by omega)
    simp only [z1, z2, cond_false, if_true, not_true, false_implies, true_implies, true_and]
    refine And.intro ⟨⟨0, Nat.zero_le _⟩, rfl⟩ ?_
    rintro ⟨i, hi⟩
    dsimp only
    refine And.intro (fun h => ?_) (fun h => ?_)
    · have h' : i < p.ops.length := Int.ofNat_lt.1 h
      exact ⟨⟨p, aPrg_refl p, Int.natCast_nonneg i, h', fun k hk => hV.ops k (by omega)⟩, by omega, ⟨i + 1, h'⟩, sub_step h', rfl⟩
    · refine And.intro ⟨p, slOpds_refl _, h24, hV.ops⟩ (And.intro (fun h => by omega) (fun _ => And.intro ⟨⟨0, Nat.zero_le _⟩, rfl⟩ ?_))
      clear h hi
      rintro ⟨i, hi⟩
      dsimp only
      refine And.intro (fun h => ?_) (fun h => ?_)
      · have h' : i < p.ins.length := Int.ofNat_lt.1 h
        have hm : p.ins.getD i ins0 ∈ p.ins := by rw [List.getD_eq_getElem?_getD, List.getElem?_eq_getElem h']; exact List.getElem_mem h'
        exact ⟨⟨Int.natCast_nonneg i, h⟩, ⟨p, p.ins.getD i ins0, aPrg_refl p, ⟨rfl, rfl, fun _ _ => rfl⟩, hV.ins _ hm, hV.ops⟩, by omega, ⟨i + 1, h'⟩, sub_step h', rfl⟩
      · refine And.intro ⟨⟨0, Nat.zero_le _⟩, rfl⟩ ?_
        clear h hi
        rintro ⟨i, hi⟩
        dsimp only
        intro h
        have h' : i < p.mons.length := Int.ofNat_lt.1 h
        have hm : p.mons.getD i mon0 ∈ p.mons := by rw [List.getD_eq_getElem?_getD, List.getElem?_eq_getElem h']; exact List.getElem_mem h'
        rw [hV.mons _ hm]
        exact ⟨⟨Int.natCast_nonneg i, h⟩, fun h => absurd rfl h, fun _ => ⟨by omega, ⟨i + 1, h'⟩, sub_step h', rfl⟩⟩
  · exact (Tr.run_fail hr).elim
noncomputable def CprogErr : Con
  | [v] => .need (∃ p : Prg, eqv (aPrg p) v ∧ Valid p) (.ret (.int .i64 0))
  | _ => .fail
theorem ok14 (h97 : Ok m 97 Crep) : Ok m 14 CprogErr := fn_ok2 (cons_cons (ok31 h97) cons_nil) Tryz.func14 (by kernel_rfl) fun xs r hr hp => by
  unfold CprogErr at hr
  split at hr
  · rename_i v
    obtain ⟨⟨p, hl, hV⟩, hr⟩ := Tr.run_need hr
    obtain rfl := Tr.run_ret hr
    refine ⟨[aPrg p], [], prg_args hl _, of_nice (Ob (∃ (p_1 : Prg), eqv (aPrg p_1) (aPrg p) ∧ Valid p_1) ∧ (0 : Int) = (0 : Int)) (by kernel_rfl) ?_⟩
    exact ⟨⟨⟨p, aPrg_refl p, hV⟩⟩, rfl⟩
  · exact (Tr.run_fail hr).elim
noncomputable def checkErr (p : Prg) : Int :=
  if 24 < p.ops.length ∨ 40 < p.ins.length ∨ 6 < p.mons.length then 2
  else if p.ins.length = 0 then 1
  else if firstErr (opErr p) p.ops.length ≠ 0 then firstErr (opErr p) p.ops.length
  else if 24 < quads p.ops then 30
  else if firstErr (fun i => insErr p (p.ins.getD i ins0)) p.ins.length ≠ 0 then firstErr (fun i => insErr p (p.ins.getD i ins0)) p.ins.length
  else firstErr (fun i => if monOk p (p.mons.getD i mon0) = true then 0 else 3) p.mons.length
theorem valid_of {p : Prg} (h : checkErr p = 0) : Valid p := by
  unfold checkErr at h
  split at h
  · cases h
  · rename_i h1
    split at h
    · cases h
    · rename_i h2
      split at h
      · rename_i h3; exact absurd h h3
      · rename_i h3
        have h3 : firstErr (opErr p) p.ops.length = 0 := Decidable.not_not.1 h3
        split at h
        · cases h
        · rename_i h4
          split at h
          · rename_i h5; exact absurd h h5
          · rename_i h5
            have h5 := Decidable.not_not.1 h5
            refine ⟨by omega, by omega, by omega, fun e => h2 (by rw [e]; rfl), fun i hi => firstErr_zero h3 i hi, by omega, fun x hx => ?_, fun x hx => ?_⟩
            · obtain ⟨i, hi, rfl⟩ := List.mem_iff_getElem.1 hx
              have := firstErr_zero h5 i hi
              rwa [List.getD_eq_getElem?_getD, List.getElem?_eq_getElem hi] at this
            · obtain ⟨i, hi, rfl⟩ := List.mem_iff_getElem.1 hx
              have := firstErr_zero h i hi
              rw [List.getD_eq_getElem?_getD, List.getElem?_eq_getElem hi] at this
              simp only [Option.getD_some] at this
              by_cases hm : monOk p p.mons[i] = true
              · exact hm
              · rw [if_neg hm] at this; cases this
end Go.Proofs.YtgcnbicoajjlaaaGreatDoor
end
section
set_option linter.unusedVariables false
set_option linter.unusedSimpArgs false
set_option maxRecDepth 100000
namespace Go.Proofs.YtgcnbicoajjlaaaGreatDoor
open Go Go.Eng Go.Tx
variable {m : Int}
noncomputable def inv13a (p : Prg) : Eng.Inv :=
  ⟨{ i : Nat // i ≤ p.ops.length ∧ ∀ k, k < i → opErr p k = 0 }, fun i => [(1, .ptr 1 0), (2, .ptr 2 0), (4, I i.1)], fun i => [(1, bxPrg p), (2, .box [I 0, I 0] false)], fun i => p.ops.length - i.1⟩
noncomputable def inv13b (p : Prg) : Eng.Inv :=
  ⟨{ i : Nat // i ≤ p.ins.length ∧ ∀ k, k < i → insErr p (p.ins.getD k ins0) = 0 }, fun i => [(1, .ptr 1 0), (2, .ptr 2 0), (8, I i.1)], fun i => [(1, bxPrg p), (2, .box [I 0, I 0] false)], fun i => p.ins.length - i.1⟩
noncomputable def monErr (p : Prg) (i : Nat) : Int := if monOk p (p.mons.getD i mon0) = true then 0 else 3
noncomputable def inv13c (p : Prg) : Eng.Inv :=
  ⟨{ i : Nat // i ≤ p.mons.length ∧ ∀ k, k < i → monErr p k = 0 }, fun i => [(1, .ptr 1 0), (2, .ptr 2 0), (10, I i.1)], fun i => [(1, bxPrg p), (2, .box [I 0, I 0] false)], fun i => p.mons.length - i.1⟩
theorem ins1_c (x : Ins) : insOf1 (AV.agg [AV.int IntKind.i64 x.op, slInts x.args]) = x := ins1_eqv (x := x) ⟨rfl, rfl, fun _ _ => rfl⟩
noncomputable def CcheckR : Con
  | [v] => .need (∃ p : Prg, eqv (aPrg p) v) (.ret (.tup [.agg [.any, .any], .int .i64 (checkErr (prgOf v))]))
  | _ => .fail
theorem ok13 : Ok m 13 CcheckR := fn_ok2 (cons_cons ok28 (cons_cons ok29 (cons_cons ok30 (cons_cons ok6 cons_nil)))) Tryz.func13 (by kernel_rfl) fun xs r hr hp => by
  unfold CcheckR at hr
  split at hr
  · rename_i v
    obtain ⟨⟨p, hl⟩, hr⟩ := Tr.run_need hr
    obtain rfl := Tr.run_ret hr
    have hb := prg_small hl hp.1
    rw [prg_eqv hl]
    refine ⟨[aPrg p], [(0, inv13a p), (2, inv13b p), (4, inv13c p)], prg_args hl _, of_nice (((decide ((24 : Int) < (↑p.ops.length : Int)) || decide ((40 : Int) < (↑p.ins.length : Int)) || decide ((6 : Int) < (↑p.mons.length : Int))) = true → (True ∧ True) ∧ (2 : Int) =
  checkErr p) ∧ ((decide ((24 : Int) < (↑p.ops.length : Int)) || decide ((40 : Int) < (↑p.ins.length : Int)) || decide ((6 : Int) < (↑p.mons.length : Int))) = false → (decide
  ((↑p.ins.length : Int) = (0 : Int)) = true → (True ∧ True) ∧ (1 : Int) = checkErr p) ∧ (decide ((↑p.ins.length : Int) = (0 : Int)) = false → (∃ (j : { i : Nat // i ≤
  p.ops.length ∧ ∀ (k : Nat), k < i → opErr p k = (0 : Int) }), True ∧ True ∧ (0 : Int) = (↑j.val : Int) ∧ ((p.ops.length = p.ops.length ∧ ∀ (i : Nat), i < p.ops.length → cOpd
  (p.ops.getD i opd0) = cOpd (p.ops.getD i opd0)) ∧ (p.ins.length = p.ins.length ∧ ∀ (i : Nat), i < p.ins.length → cIns (p.ins.getD i ins0) = cIns (p.ins.getD i ins0)) ∧
  p.mons.length = p.mons.length ∧ ∀ (i : Nat), i < p.mons.length → cMon (p.mons.getD i mon0) = cMon (p.mons.getD i mon0)) ∧ ((0 : Int) = (0 : Int) ∧ (0 : Int) = (0 : Int)) ∧
  True) ∧ ∀ (i : { i : Nat // i ≤ p.ops.length ∧ ∀ (k : Nat), k < i → opErr p k = (0 : Int) }), (decide ((↑i.val : Int) < (↑p.ops.length : Int)) = true → Ob (∃ (p_1 : Prg), eqv
  (aPrg p_1) (aPrg p) ∧ (0 : Int) ≤ (↑i.val : Int) ∧ i.val < p_1.ops.length ∧ ∀ (k : Nat), k < i.val → opErr p_1 k = (0 : Int)) ∧ ((!decide (opErr (prgOf (aPrg p)) i.val = (0 :
  Int))) = true → (True ∧ True) ∧ opErr (prgOf (aPrg p)) i.val = checkErr p) ∧ ((!decide (opErr (prgOf (aPrg p)) i.val = (0 : Int))) = false → Ob (inI64 ((↑i.val : Int) + (1 :
  Int))) ∧ ∃ (j : { i : Nat // i ≤ p.ops.length ∧ ∀ (k : Nat), k < i → opErr p k = (0 : Int) }), (p.ops.length - j.val).succ.le (p.ops.length - i.val) ∧ True ∧ True ∧ (↑i.val :
  Int) + (1 : Int) = (↑j.val : Int) ∧ ((p.ops.length = p.ops.length ∧ ∀ (i : Nat), i < p.ops.length → cOpd (p.ops.getD i opd0) = cOpd (p.ops.getD i opd0)) ∧ (p.ins.length =
  p.ins.length ∧ ∀ (i : Nat), i < p.ins.length → cIns (p.ins.getD i ins0) = cIns (p.ins.getD i ins0)) ∧ p.mons.length = p.mons.length ∧ ∀ (i : Nat), i < p.mons.length → cMon
  (p.mons.getD i mon0) = cMon (p.mons.getD i mon0)) ∧ ((0 : Int) = (0 : Int) ∧ (0 : Int) = (0 : Int)) ∧ True)) ∧ (decide ((↑i.val : Int) < (↑p.ops.length : Int)) = false → Ob (∃
  (p_1 : Prg), eqv (aPrg p_1) (aPrg p) ∧ p_1.ops.length ≤ (24 : Nat) ∧ AllRight p_1) ∧ (decide ((24 : Int) < quads (prgOf (aPrg p)).ops) = true → (True ∧ True) ∧ (30 : Int) =
  checkErr p) ∧ (decide ((24 : Int) < quads (prgOf (aPrg p)).ops) = false → (∃ (j : { i : Nat // i ≤ p.ins.length ∧ ∀ (k : Nat), k < i → insErr p (p.ins.getD k ins0) = (0 : Int)
  }), True ∧ True ∧ (0 : Int) = (↑j.val : Int) ∧ ((p.ops.length = p.ops.length ∧ ∀ (i : Nat), i < p.ops.length → cOpd (p.ops.getD i opd0) = cOpd (p.ops.getD i opd0)) ∧
  (p.ins.length = p.ins.length ∧ ∀ (i : Nat), i < p.ins.length → cIns (p.ins.getD i ins0) = cIns (p.ins.getD i ins0)) ∧ p.mons.length = p.mons.length ∧ ∀ (i : Nat), i <
  p.mons.length → cMon (p.mons.getD i mon0) = cMon (p.mons.getD i mon0)) ∧ ((0 : Int) = (0 : Int) ∧ (0 : Int) = (0 : Int)) ∧ True) ∧ ∀ (i : { i : Nat // i ≤ p.ins.length ∧ ∀ (k :
  Nat), k < i → insErr p (p.ins.getD k ins0) = (0 : Int) }), (decide ((↑i.val : Int) < (↑p.ins.length : Int)) = true → Ob ((0 : Int) ≤ (↑i.val : Int) ∧ (↑i.val : Int) <
  (↑p.ins.length : Int)) ∧ Ob (∃ (p_1 : Prg), ∃ (x : Ins), eqv (aPrg p_1) (aPrg p) ∧ eqv (aIns x) (AV.agg [AV.int IntKind.i64 (p.ins.getD i.val ins0).op, slInts (p.ins.getD i.val
  ins0).args])) ∧ ((!decide (insErr (prgOf (aPrg p)) (insOf1 (AV.agg [AV.int IntKind.i64 (p.ins.getD i.val ins0).op, slInts (p.ins.getD i.val ins0).args])) = (0 : Int))) = true →
  (True ∧ True) ∧ insErr (prgOf (aPrg p)) (insOf1 (AV.agg [AV.int IntKind.i64 (p.ins.getD i.val ins0).op, slInts (p.ins.getD i.val ins0).args])) = checkErr p) ∧ ((!decide (insErr
  (prgOf (aPrg p)) (insOf1 (AV.agg [AV.int IntKind.i64 (p.ins.getD i.val ins0).op, slInts (p.ins.getD i.val ins0).args])) = (0 : Int))) = false → Ob (inI64 ((↑i.val : Int) + (1 :
  Int))) ∧ ∃ (j : { i : Nat // i ≤ p.ins.length ∧ ∀ (k : Nat), k < i → insErr p (p.ins.getD k ins0) = (0 : Int) }), (p.ins.length - j.val).succ.le (p.ins.length - i.val) ∧ True ∧
  True ∧ (↑i.val : Int) + (1 : Int) = (↑j.val : Int) ∧ ((p.ops.length = p.ops.length ∧ ∀ (i : Nat), i < p.ops.length → cOpd (p.ops.getD i opd0) = cOpd (p.ops.getD i opd0)) ∧
  (p.ins.length = p.ins.length ∧ ∀ (i : Nat), i < p.ins.length → cIns (p.ins.getD i ins0) = cIns (p.ins.getD i ins0)) ∧ p.mons.length = p.mons.length ∧ ∀ (i : Nat), i <
  p.mons.length → cMon (p.mons.getD i mon0) = cMon (p.mons.getD i mon0)) ∧ ((0 : Int) = (0 : Int) ∧ (0 : Int) = (0 : Int)) ∧ True)) ∧ (decide ((↑i.val : Int) < (↑p.ins.length :
  Int)) = false → (∃ (j : { i : Nat // i ≤ p.mons.length ∧ ∀ (k : Nat), k < i → monErr p k = (0 : Int) }), True ∧ True ∧ (0 : Int) = (↑j.val : Int) ∧ ((p.ops.length =
  p.ops.length ∧ ∀ (i : Nat), i < p.ops.length → cOpd (p.ops.getD i opd0) = cOpd (p.ops.getD i opd0)) ∧ (p.ins.length = p.ins.length ∧ ∀ (i : Nat), i < p.ins.length → cIns
  (p.ins.getD i ins0) = cIns (p.ins.getD i ins0)) ∧ p.mons.length = p.mons.length ∧ ∀ (i : Nat), i < p.mons.length → cMon (p.mons.getD i mon0) = cMon (p.mons.getD i mon0)) ∧ ((0
  : Int) = (0 : Int) ∧ (0 : Int) = (0 : Int)) ∧ True) ∧ ∀ (i : { i : Nat // i ≤ p.mons.length ∧ ∀ (k : Nat), k < i → monErr p k = (0 : Int) }), (decide ((↑i.val : Int) <
  (↑p.mons.length : Int)) = true → Ob ((0 : Int) ≤ (↑i.val : Int) ∧ (↑i.val : Int) < (↑p.mons.length : Int)) ∧ Ob ((decide ((p.mons.getD i.val mon0).fr < (0 : Int)) || decide
  ((p.mons.getD i.val mon0).to ≤ (p.mons.getD i.val mon0).fr) || decide ((↑p.ins.length : Int) < (p.mons.getD i.val mon0).to) || !(decide ((0 : Int) ≤ (p.mons.getD i.val
  mon0).ex) && decide ((p.mons.getD i.val mon0).ex ≤ (999 : Int)))) = false → inI64 ((↑p.ins.length : Int) - (1 : Int))) ∧ ((decide ((p.mons.getD i.val mon0).fr < (0 : Int)) ||
  decide ((p.mons.getD i.val mon0).to ≤ (p.mons.getD i.val mon0).fr) || decide ((↑p.ins.length : Int) < (p.mons.getD i.val mon0).to) || !(decide ((0 : Int) ≤ (p.mons.getD i.val
  mon0).ex) && decide ((p.mons.getD i.val mon0).ex ≤ (999 : Int))) || !(decide ((0 : Int) ≤ (p.mons.getD i.val mon0).hd) && decide ((p.mons.getD i.val mon0).hd ≤ (↑p.ins.length :
  Int) - (1 : Int)))) = true → (True ∧ True) ∧ (3 : Int) = checkErr p) ∧ ((decide ((p.mons.getD i.val mon0).fr < (0 : Int)) || decide ((p.mons.getD i.val mon0).to ≤ (p.mons.getD
  i.val mon0).fr) || decide ((↑p.ins.length : Int) < (p.mons.getD i.val mon0).to) || !(decide ((0 : Int) ≤ (p.mons.getD i.val mon0).ex) && decide ((p.mons.getD i.val mon0).ex ≤
  (999 : Int))) || !(decide ((0 : Int) ≤ (p.mons.getD i.val mon0).hd) && decide ((p.mons.getD i.val mon0).hd ≤ (↑p.ins.length : Int) - (1 : Int)))) = false → Ob (inI64 ((↑i.val :
  Int) + (1 : Int))) ∧ ∃ (j : { i : Nat // i ≤ p.mons.length ∧ ∀ (k : Nat), k < i → monErr p k = (0 : Int) }), (p.mons.length - j.val).succ.le (p.mons.length - i.val) ∧ True ∧
  True ∧ (↑i.val : Int) + (1 : Int) = (↑j.val : Int) ∧ ((p.ops.length = p.ops.length ∧ ∀ (i : Nat), i < p.ops.length → cOpd (p.ops.getD i opd0) = cOpd (p.ops.getD i opd0)) ∧
  (p.ins.length = p.ins.length ∧ ∀ (i : Nat), i < p.ins.length → cIns (p.ins.getD i ins0) = cIns (p.ins.getD i ins0)) ∧ p.mons.length = p.mons.length ∧ ∀ (i : Nat), i <
  p.mons.length → cMon (p.mons.getD i mon0) = cMon (p.mons.getD i mon0)) ∧ ((0 : Int) = (0 : Int) ∧ (0 : Int) = (0 : Int)) ∧ True)) ∧ (decide ((↑i.val : Int) < (↑p.mons.length :
  Int)) = false → (True ∧ True) ∧ (0 : Int) = checkErr p))))))) (by kernel_rfl) ?_⟩
    simp only [bor_c, band_c, prg_c, exPrg, Ob_iff, inI64, decide_eq_true_eq, decide_eq_false_iff_not, Bool.not_eq_true', Bool.not_eq_false', true_and, implies_true, and_true]
    obtain ⟨_, q2, q3⟩ := hb
    unfold maxLen at q2 q3
    refine And.intro (fun h => ?_) (fun h => And.intro (fun h1 => ?_) (fun h1 => And.intro ⟨⟨0, Nat.zero_le _, below_zero⟩, rfl⟩ ?_))
    · simp only [Bool.or_eq_true, decide_eq_true_eq] at h
      unfold checkErr
      rw [if_pos (by omega)]
    · simp only [Bool.or_eq_false_iff, decide_eq_false_iff_not] at h
      unfold checkErr
      rw [if_neg (by omega), if_pos (by omega)]
    · simp only [Bool.or_eq_false_iff, decide_eq_false_iff_not] at h
      have c1 : ¬ (24 < p.ops.length ∨ 40 < p.ins.length ∨ 6 < p.mons.length) := by omega
      have c2 : ¬ p.ins.length = 0 := by omega
      clear h h1
      rintro ⟨i, hi, hk⟩
      dsimp only
      refine And.intro (fun h => ?_) (fun h => ?_)
      · have h' : i < p.ops.length := Int.ofNat_lt.1 h
        refine And.intro ⟨p, aPrg_refl p, Int.natCast_nonneg i, h', hk⟩ (And.intro (fun he => ?_) (fun he => ?_))
        · unfold checkErr
          have := firstErr_at hk he h'
          rw [if_neg c1, if_neg c2, if_pos (by rw [this]; exact he), this]
        · exact ⟨by omega, ⟨i + 1, h', below_succ hk he⟩, sub_step h', rfl⟩
      · have h' : i = p.ops.length := by omega
        subst h'
        have c3 : ¬ firstErr (opErr p) p.ops.length ≠ 0 := fun e => e (firstErr_all hk)
        refine And.intro ⟨p, aPrg_refl p, by omega, hk⟩ (And.intro (fun hq => ?_) (fun hq => And.intro ⟨⟨0, Nat.zero_le _, below_zero⟩, rfl⟩ ?_))
        · unfold checkErr
          rw [if_neg c1, if_neg c2, if_neg c3, if_pos hq]
        · clear h hi hk
          rintro ⟨i, hi, hk⟩
          dsimp only
          refine And.intro (fun h => ?_) (fun h => ?_)
          · have h' : i < p.ins.length := Int.ofNat_lt.1 h
            rw [ins1_c]
            refine And.intro ⟨Int.natCast_nonneg i, h⟩ (And.intro ⟨p, p.ins.getD i ins0, aPrg_refl p, rfl, rfl, fun _ _ => rfl⟩ (And.intro (fun he => ?_) (fun he => ?_)))
            · unfold checkErr
              have := firstErr_at (f := fun i => insErr p (p.ins.getD i ins0)) hk he h'
              rw [if_neg c1, if_neg c2, if_neg c3, if_neg hq, if_pos (by rw [this]; exact he), this]
            · exact ⟨by omega, ⟨i + 1, h', below_succ hk he⟩, sub_step h', rfl⟩
          · have h' : i = p.ins.length := by omega
            subst h'
            have c4 : ¬ firstErr (fun i => insErr p (p.ins.getD i ins0)) p.ins.length ≠ 0 := fun e => e (firstErr_all hk)
            refine And.intro ⟨⟨0, Nat.zero_le _, below_zero⟩, rfl⟩ ?_
            clear h hi hk
            rintro ⟨i, hi, hk⟩
            dsimp only
            refine And.intro (fun h => ?_) (fun h => ?_)
            · have h' : i < p.mons.length := Int.ofNat_lt.1 h
              refine And.intro ⟨Int.natCast_nonneg i, h⟩ (And.intro (fun _ => by omega) (And.intro (fun he => ?_) (fun he => ?_)))
              · have hm : monErr p i = 3 := by
                  unfold monErr
                  rw [if_neg]
                  intro hk2
                  simp only [Bool.or_eq_true, Bool.not_eq_true', Bool.and_eq_false_iff, decide_eq_true_eq, decide_eq_false_iff_not] at he
                  simp only [monOk, decide_eq_true_eq] at hk2
                  omega
                unfold checkErr
                have := firstErr_at (f := monErr p) hk (by rw [hm]; omega) h'
                rw [if_neg c1, if_neg c2, if_neg c3, if_neg hq, if_neg c4]
                exact (this.trans hm).symm
              · have hm : monErr p i = 0 := by
                  unfold monErr
                  rw [if_pos]
                  simp only [Bool.or_eq_false_iff, Bool.not_eq_false', Bool.and_eq_true, decide_eq_true_eq, decide_eq_false_iff_not] at he
                  simp only [monOk, decide_eq_true_eq]
                  omega
                exact ⟨by omega, ⟨i + 1, h', below_succ hk hm⟩, sub_step h', rfl⟩
            · have h' : i = p.mons.length := by omega
              subst h'
              unfold checkErr
              rw [if_neg c1, if_neg c2, if_neg c3, if_neg hq, if_neg c4]
              exact (firstErr_all (f := monErr p) hk).symm
  · exact (Tr.run_fail hr).elim
noncomputable def CerrR : Con
  | [v] => .need (∃ p : Prg, eqv (aPrg p) v) (.ret (.int .i64 (checkErr (prgOf v))))
  | _ => .fail
theorem ok5 : Ok m 5 CerrR := fn_ok2 (cons_cons ok13 cons_nil) Tryz.func5 (by kernel_rfl) fun xs r hr hp => by
  unfold CerrR at hr
  split at hr
  · rename_i v
    obtain ⟨⟨p, hl⟩, hr⟩ := Tr.run_need hr
    obtain rfl := Tr.run_ret hr
    rw [prg_eqv hl]
    refine ⟨[aPrg p], [], prg_args hl _, of_nice (Ob (∃ (p_1 : Prg), eqv (aPrg p_1) (aPrg p)) ∧ checkErr (prgOf (aPrg p)) = checkErr p) (by kernel_rfl) ?_⟩
    exact ⟨⟨⟨p, aPrg_refl p⟩⟩, by rw [prg_c]⟩
  · exact (Tr.run_fail hr).elim
end Go.Proofs.YtgcnbicoajjlaaaGreatDoor
end
