/-
What is proved: 'midrangetop.TopTextsRefused' returns true for every input, and its arguments read behind the call as they read before (the tied card of the statement 'TopTextsRefused').
  Its conditions: the row's own: the ten listed package-level variables start as the program's text lays them (the card ties them to that text); nothing else is asked.
  Part 15 of 15.
-/
import Derived.Test.YtgcnbicoajjlaaaGreatDoorA6
import Derived.Test.YtgcnbicoajjlaaaGreatDoorA14
import Derived.OpenShut
import Derived.FnData
import Derived.ChangeArms
import Derived.Lib.LaidU8
import Derived.Test.YtgcnbicoajjlaaaGreatDoorRows
import Derived.Shelf.Vars
import Derived.Carry
import Derived.Lay
import Derived.ChangeSame
import Derived.ChangeVars
import Derived.JoinedOf
import Derived.RowKit
import Derived.LaidLaws
import Derived.LaidOnce
import Derived.Stop.Joined
import Derived.ProofKit
import Derived.ShapedOpen
import Derived.Test.YtgcnbicoajjlaaaGreatDoorCards
import Derived.Test.YtgcnbicoajjlaaaGreatDoorTie
import Derived.SevenTiedAt
set_option linter.unusedSectionVars false
set_option linter.unusedVariables false
set_option linter.unusedSimpArgs false
section
set_option linter.unusedVariables false
set_option linter.unusedSimpArgs false
set_option maxRecDepth 100000
namespace Go.Proofs.YtgcnbicoajjlaaaGreatDoor
open Go Go.Eng Go.Tx
variable {m : Int}
theorem ok_less {f : Nat} {C D : Con} (h : Ok m f C) (hd : ∀ xs r, (D xs).run = some r → (C xs).run = some r) : Ok m f D := fun xs r hr hp => h xs r (hd xs r hr) hp
noncomputable def K4 (p : Prg) (b : Bool) : Con
  | [v] => .need (v = aPrg p) (.ret (.prop b))
  | _ => .fail
noncomputable def K5 (p : Prg) (c : Int) : Con
  | [v] => .need (v = aPrg p) (.ret (.int .i64 c))
  | _ => .fail
noncomputable def K8 (p : Prg) : Con
  | [v] => .need (v = aPrg p ∧ Valid p) (.ret (aPrg p))
  | _ => .fail
noncomputable def K7 (p : Prg) (T : Str) (E : Int) : Con
  | [v] => .need (v = aPrg p ∧ Valid p) (.ret (.tup [.str T, .int .i64 E]))
  | _ => .fail
noncomputable def K9 (p : Prg) (W : Str) : Con
  | [v] => .need (v = aPrg p ∧ Valid p) (.ret (.str W))
  | _ => .fail
noncomputable def K10 (P : Str → Prg) (A B : Str → Int) (G : Str → Prop) : Con
  | [.str s] => .need (G s) (.ret (.tup [aPrg (P s), .int .i64 (A s), .int .i64 (B s)]))
  | _ => .fail
noncomputable def K11 (p : Prg) : Con
  | [v, u] => .need (v = aPrg p ∧ u = aPrg p ∧ Valid p) (.ret (.prop true))
  | _ => .fail
noncomputable def K12 (T : Str) (S : List Int) : Con
  | [.str s] => .need (s = T ∧ s.length ≤ 10000) (.ret (slInts S))
  | _ => .fail
noncomputable def TopP (p : Prg) (line way : Int) (b : Bool) (c E : Int) (T W : Str) (S : List Int) (P : Str → Prg) (A B : Str → Int) (G : Str → Prop) (q F N z t L : Int) (X0 X1 X2 X3 X4 : Str) : Prop :=
  (Ob (aPrg p = aPrg p) ∧ Ob ((!b) = false → aPrg p = aPrg p) ∧ ((!b || !decide (c = (0 : Int)) || !(decide ((0 : Int) ≤ way) && decide (way ≤ (3 : Int)))) = true → true = true) ∧
  ((!b || !decide (c = (0 : Int)) || !(decide ((0 : Int) ≤ way) && decide (way ≤ (3 : Int)))) = false → Ob (aPrg p = aPrg p ∧ Valid p) ∧ Ob (aPrg p = aPrg p ∧ Valid p) ∧
  ((!decide (E = (0 : Int))) = true → Ob (decide (E = (2 : Int)) = true → aPrg p = aPrg p ∧ Valid p) ∧ (bif decide (E = (2 : Int)) then decide ((6000 : Int) < (↑(List.length W) :
  Int)) else false) = true) ∧ ((!decide (E = (0 : Int))) = false → Ob (G T) ∧ Ob ((!decide (B T = (0 : Int)) || !decide (A T = (0 : Int))) = false → aPrg (P T) = aPrg p ∧ aPrg p
  = aPrg p ∧ Valid p) ∧ ((!decide (B T = (0 : Int)) || !decide (A T = (0 : Int)) || !true) = true → false = true) ∧ ((!decide (B T = (0 : Int)) || !decide (A T = (0 : Int)) ||
  !true) = false → Ob (T = T ∧ List.length T ≤ (10000 : Nat)) ∧ ((decide (line < (0 : Int)) || decide (z = (0 : Int))) = true → decide (line < (0 : Int)) = true) ∧ ((decide (line
  < (0 : Int)) || decide (z = (0 : Int))) = false → Ob (z ≠ (0 : Int)) ∧ Ob ((0 : Int) ≤ q ∧ q < z) ∧ Ob (inI64 (q + (1 : Int))) ∧ (decide (q + (1 : Int) < z) = true → Ob (inI64
  (q + (1 : Int))) ∧ Ob ((0 : Int) ≤ q + (1 : Int) ∧ q + (1 : Int) < z) ∧ Ob (inI64 (N - F)) ∧ (decide (N - F < (3 : Int)) = true → false = true) ∧ (decide (N - F < (3 : Int)) =
  false → (decide (way = (0 : Int)) = true → Ob ((0 : Int) ≤ F ∧ F ≤ t) ∧ Ob ((List.take (F.toNat - (0 : Nat)) (List.drop (0 : Nat) T)).length + [(97 : UInt8)].length ≤
  (9223372036854775807 : Nat)) ∧ Ob ((0 : Int) ≤ F ∧ F ≤ t) ∧ Ob ((List.take (F.toNat - (0 : Nat)) (List.drop (0 : Nat) T) ++ [(97 : UInt8)]).length + (List.take (List.length T -
  F.toNat) (List.drop F.toNat T)).length ≤ (9223372036854775807 : Nat)) ∧ (decide ((6000 : Int) < (↑X0.length : Int)) = true → Ob (G X0) ∧ Ob ((bif decide (B X0 = (2 : Int)) then
  decide (A X0 = (0 : Int)) else false) = true → inI64 ((↑(P X0).ops.length : Int) + (↑(P X0).ins.length : Int))) ∧ Ob ((bif decide (B X0 = (2 : Int)) then decide (A X0 = (0 :
  Int)) else false) = true → inI64 ((↑(P X0).ops.length : Int) + (↑(P X0).ins.length : Int) + (↑(P X0).mons.length : Int))) ∧ (bif bif decide (B X0 = (2 : Int)) then decide (A X0
  = (0 : Int)) else false then decide ((↑(P X0).ops.length : Int) + (↑(P X0).ins.length : Int) + (↑(P X0).mons.length : Int) = (0 : Int)) else false) = true) ∧ (decide ((6000 :
  Int) < (↑X0.length : Int)) = false → Ob (G X0) ∧ Ob ((bif decide (B X0 = (8 : Int)) then decide (A X0 = F) else false) = true → inI64 ((↑(P X0).ops.length : Int) + (↑(P
  X0).ins.length : Int))) ∧ Ob ((bif decide (B X0 = (8 : Int)) then decide (A X0 = F) else false) = true → inI64 ((↑(P X0).ops.length : Int) + (↑(P X0).ins.length : Int) + (↑(P
  X0).mons.length : Int))) ∧ (bif bif decide (B X0 = (8 : Int)) then decide (A X0 = F) else false then decide ((↑(P X0).ops.length : Int) + (↑(P X0).ins.length : Int) + (↑(P
  X0).mons.length : Int) = (0 : Int)) else false) = true)) ∧ (decide (way = (0 : Int)) = false → (decide (way = (1 : Int)) = true → Ob (inI64 (N - (2 : Int))) ∧ Ob ((0 : Int) ≤ N
  - (2 : Int) ∧ N - (2 : Int) ≤ t) ∧ Ob (inI64 (N - (1 : Int))) ∧ Ob ((0 : Int) ≤ N - (1 : Int) ∧ N - (1 : Int) ≤ t) ∧ Ob ((List.take ((N - (2 : Int)).toNat - (0 : Nat))
  (List.drop (0 : Nat) T)).length + (List.take (List.length T - (N - (1 : Int)).toNat) (List.drop (N - (1 : Int)).toNat T)).length ≤ (9223372036854775807 : Nat)) ∧ (decide ((6000
  : Int) < (↑X1.length : Int)) = true → Ob (G X1) ∧ Ob ((bif decide (B X1 = (2 : Int)) then decide (A X1 = (0 : Int)) else false) = true → inI64 ((↑(P X1).ops.length : Int) +
  (↑(P X1).ins.length : Int))) ∧ Ob ((bif decide (B X1 = (2 : Int)) then decide (A X1 = (0 : Int)) else false) = true → inI64 ((↑(P X1).ops.length : Int) + (↑(P X1).ins.length :
  Int) + (↑(P X1).mons.length : Int))) ∧ (bif bif decide (B X1 = (2 : Int)) then decide (A X1 = (0 : Int)) else false then decide ((↑(P X1).ops.length : Int) + (↑(P
  X1).ins.length : Int) + (↑(P X1).mons.length : Int) = (0 : Int)) else false) = true) ∧ (decide ((6000 : Int) < (↑X1.length : Int)) = false → Ob (G X1) ∧ Ob ((bif decide (B X1 =
  (8 : Int)) then decide (A X1 = F) else false) = true → inI64 ((↑(P X1).ops.length : Int) + (↑(P X1).ins.length : Int))) ∧ Ob ((bif decide (B X1 = (8 : Int)) then decide (A X1 =
  F) else false) = true → inI64 ((↑(P X1).ops.length : Int) + (↑(P X1).ins.length : Int) + (↑(P X1).mons.length : Int))) ∧ (bif bif decide (B X1 = (8 : Int)) then decide (A X1 =
  F) else false then decide ((↑(P X1).ops.length : Int) + (↑(P X1).ins.length : Int) + (↑(P X1).mons.length : Int) = (0 : Int)) else false) = true)) ∧ (decide (way = (1 : Int)) =
  false → (decide (way = (2 : Int)) = true → Ob (inI64 (t - (1 : Int))) ∧ Ob ((0 : Int) ≤ t - (1 : Int) ∧ t - (1 : Int) ≤ t) ∧ Ob (inI64 (z - (1 : Int))) ∧ Ob ((0 : Int) ≤ z - (1
  : Int) ∧ z - (1 : Int) < z) ∧ (decide ((6000 : Int) < (↑X3.length : Int)) = true → Ob (G X3) ∧ Ob ((bif decide (B X3 = (2 : Int)) then decide (A X3 = (0 : Int)) else false) =
  true → inI64 ((↑(P X3).ops.length : Int) + (↑(P X3).ins.length : Int))) ∧ Ob ((bif decide (B X3 = (2 : Int)) then decide (A X3 = (0 : Int)) else false) = true → inI64 ((↑(P
  X3).ops.length : Int) + (↑(P X3).ins.length : Int) + (↑(P X3).mons.length : Int))) ∧ (bif bif decide (B X3 = (2 : Int)) then decide (A X3 = (0 : Int)) else false then decide
  ((↑(P X3).ops.length : Int) + (↑(P X3).ins.length : Int) + (↑(P X3).mons.length : Int) = (0 : Int)) else false) = true) ∧ (decide ((6000 : Int) < (↑X3.length : Int)) = false →
  Ob (G X3) ∧ Ob ((bif decide (B X3 = (8 : Int)) then decide (A X3 = L) else false) = true → inI64 ((↑(P X3).ops.length : Int) + (↑(P X3).ins.length : Int))) ∧ Ob ((bif decide (B
  X3 = (8 : Int)) then decide (A X3 = L) else false) = true → inI64 ((↑(P X3).ops.length : Int) + (↑(P X3).ins.length : Int) + (↑(P X3).mons.length : Int))) ∧ (bif bif decide (B
  X3 = (8 : Int)) then decide (A X3 = L) else false then decide ((↑(P X3).ops.length : Int) + (↑(P X3).ins.length : Int) + (↑(P X3).mons.length : Int) = (0 : Int)) else false) =
  true)) ∧ (decide (way = (2 : Int)) = false → (decide (way = (3 : Int)) = true → Ob (List.length T + [(68 : UInt8), (67 : UInt8), (76 : UInt8), (32 : UInt8), (80 : UInt8), (84 :
  UInt8), (82 : UInt8), (32 : UInt8), (90 : UInt8), (90 : UInt8), (90 : UInt8), (90 : UInt8), (90 : UInt8), (90 : UInt8), (90 : UInt8), (90 : UInt8), (90 : UInt8), (90 : UInt8),
  (59 : UInt8), (10 : UInt8)].length ≤ (9223372036854775807 : Nat)) ∧ (decide ((6000 : Int) < (↑X4.length : Int)) = true → Ob (G X4) ∧ Ob ((bif decide (B X4 = (2 : Int)) then
  decide (A X4 = (0 : Int)) else false) = true → inI64 ((↑(P X4).ops.length : Int) + (↑(P X4).ins.length : Int))) ∧ Ob ((bif decide (B X4 = (2 : Int)) then decide (A X4 = (0 :
  Int)) else false) = true → inI64 ((↑(P X4).ops.length : Int) + (↑(P X4).ins.length : Int) + (↑(P X4).mons.length : Int))) ∧ (bif bif decide (B X4 = (2 : Int)) then decide (A X4
  = (0 : Int)) else false then decide ((↑(P X4).ops.length : Int) + (↑(P X4).ins.length : Int) + (↑(P X4).mons.length : Int) = (0 : Int)) else false) = true) ∧ (decide ((6000 :
  Int) < (↑X4.length : Int)) = false → Ob (G X4) ∧ Ob ((bif decide (B X4 = (8 : Int)) then decide (A X4 = t) else false) = true → inI64 ((↑(P X4).ops.length : Int) + (↑(P
  X4).ins.length : Int))) ∧ Ob ((bif decide (B X4 = (8 : Int)) then decide (A X4 = t) else false) = true → inI64 ((↑(P X4).ops.length : Int) + (↑(P X4).ins.length : Int) + (↑(P
  X4).mons.length : Int))) ∧ (bif bif decide (B X4 = (8 : Int)) then decide (A X4 = t) else false then decide ((↑(P X4).ops.length : Int) + (↑(P X4).ins.length : Int) + (↑(P
  X4).mons.length : Int) = (0 : Int)) else false) = true)) ∧ (decide (way = (3 : Int)) = false → (decide ((6000 : Int) < (↑([] : Str).length : Int)) = true → Ob (G []) ∧ Ob ((bif
  decide (B [] = (2 : Int)) then decide (A [] = (0 : Int)) else false) = true → inI64 ((↑(P []).ops.length : Int) + (↑(P []).ins.length : Int))) ∧ Ob ((bif decide (B [] = (2 :
  Int)) then decide (A [] = (0 : Int)) else false) = true → inI64 ((↑(P []).ops.length : Int) + (↑(P []).ins.length : Int) + (↑(P []).mons.length : Int))) ∧ (bif bif decide (B []
  = (2 : Int)) then decide (A [] = (0 : Int)) else false then decide ((↑(P []).ops.length : Int) + (↑(P []).ins.length : Int) + (↑(P []).mons.length : Int) = (0 : Int)) else
  false) = true) ∧ (decide ((6000 : Int) < (↑([] : Str).length : Int)) = false → Ob (G []) ∧ Ob ((bif decide (B [] = (8 : Int)) then decide (A [] = F) else false) = true → inI64
  ((↑(P []).ops.length : Int) + (↑(P []).ins.length : Int))) ∧ Ob ((bif decide (B [] = (8 : Int)) then decide (A [] = F) else false) = true → inI64 ((↑(P []).ops.length : Int) +
  (↑(P []).ins.length : Int) + (↑(P []).mons.length : Int))) ∧ (bif bif decide (B [] = (8 : Int)) then decide (A [] = F) else false then decide ((↑(P []).ops.length : Int) + (↑(P
  []).ins.length : Int) + (↑(P []).mons.length : Int) = (0 : Int)) else false) = true))))))) ∧ (decide (q + (1 : Int) < z) = false → Ob (inI64 (t - F)) ∧ (decide (t - F < (3 :
  Int)) = true → false = true) ∧ (decide (t - F < (3 : Int)) = false → (decide (way = (0 : Int)) = true → Ob ((0 : Int) ≤ F ∧ F ≤ t) ∧ Ob ((List.take (F.toNat - (0 : Nat))
  (List.drop (0 : Nat) T)).length + [(97 : UInt8)].length ≤ (9223372036854775807 : Nat)) ∧ Ob ((0 : Int) ≤ F ∧ F ≤ t) ∧ Ob ((List.take (F.toNat - (0 : Nat)) (List.drop (0 : Nat)
  T) ++ [(97 : UInt8)]).length + (List.take (List.length T - F.toNat) (List.drop F.toNat T)).length ≤ (9223372036854775807 : Nat)) ∧ (decide ((6000 : Int) < (↑X0.length : Int)) =
  true → Ob (G X0) ∧ Ob ((bif decide (B X0 = (2 : Int)) then decide (A X0 = (0 : Int)) else false) = true → inI64 ((↑(P X0).ops.length : Int) + (↑(P X0).ins.length : Int))) ∧ Ob
  ((bif decide (B X0 = (2 : Int)) then decide (A X0 = (0 : Int)) else false) = true → inI64 ((↑(P X0).ops.length : Int) + (↑(P X0).ins.length : Int) + (↑(P X0).mons.length :
  Int))) ∧ (bif bif decide (B X0 = (2 : Int)) then decide (A X0 = (0 : Int)) else false then decide ((↑(P X0).ops.length : Int) + (↑(P X0).ins.length : Int) + (↑(P
  X0).mons.length : Int) = (0 : Int)) else false) = true) ∧ (decide ((6000 : Int) < (↑X0.length : Int)) = false → Ob (G X0) ∧ Ob ((bif decide (B X0 = (8 : Int)) then decide (A X0
  = F) else false) = true → inI64 ((↑(P X0).ops.length : Int) + (↑(P X0).ins.length : Int))) ∧ Ob ((bif decide (B X0 = (8 : Int)) then decide (A X0 = F) else false) = true →
  inI64 ((↑(P X0).ops.length : Int) + (↑(P X0).ins.length : Int) + (↑(P X0).mons.length : Int))) ∧ (bif bif decide (B X0 = (8 : Int)) then decide (A X0 = F) else false then
  decide ((↑(P X0).ops.length : Int) + (↑(P X0).ins.length : Int) + (↑(P X0).mons.length : Int) = (0 : Int)) else false) = true)) ∧ (decide (way = (0 : Int)) = false → (decide
  (way = (1 : Int)) = true → Ob (inI64 (t - (2 : Int))) ∧ Ob ((0 : Int) ≤ t - (2 : Int) ∧ t - (2 : Int) ≤ t) ∧ Ob (inI64 (t - (1 : Int))) ∧ Ob ((0 : Int) ≤ t - (1 : Int) ∧ t - (1
  : Int) ≤ t) ∧ Ob ((List.take ((t - (2 : Int)).toNat - (0 : Nat)) (List.drop (0 : Nat) T)).length + (List.take (List.length T - (t - (1 : Int)).toNat) (List.drop (t - (1 :
  Int)).toNat T)).length ≤ (9223372036854775807 : Nat)) ∧ (decide ((6000 : Int) < (↑X2.length : Int)) = true → Ob (G X2) ∧ Ob ((bif decide (B X2 = (2 : Int)) then decide (A X2 =
  (0 : Int)) else false) = true → inI64 ((↑(P X2).ops.length : Int) + (↑(P X2).ins.length : Int))) ∧ Ob ((bif decide (B X2 = (2 : Int)) then decide (A X2 = (0 : Int)) else false)
  = true → inI64 ((↑(P X2).ops.length : Int) + (↑(P X2).ins.length : Int) + (↑(P X2).mons.length : Int))) ∧ (bif bif decide (B X2 = (2 : Int)) then decide (A X2 = (0 : Int)) else
  false then decide ((↑(P X2).ops.length : Int) + (↑(P X2).ins.length : Int) + (↑(P X2).mons.length : Int) = (0 : Int)) else false) = true) ∧ (decide ((6000 : Int) < (↑X2.length
  : Int)) = false → Ob (G X2) ∧ Ob ((bif decide (B X2 = (8 : Int)) then decide (A X2 = F) else false) = true → inI64 ((↑(P X2).ops.length : Int) + (↑(P X2).ins.length : Int))) ∧
  Ob ((bif decide (B X2 = (8 : Int)) then decide (A X2 = F) else false) = true → inI64 ((↑(P X2).ops.length : Int) + (↑(P X2).ins.length : Int) + (↑(P X2).mons.length : Int))) ∧
  (bif bif decide (B X2 = (8 : Int)) then decide (A X2 = F) else false then decide ((↑(P X2).ops.length : Int) + (↑(P X2).ins.length : Int) + (↑(P X2).mons.length : Int) = (0 :
  Int)) else false) = true)) ∧ (decide (way = (1 : Int)) = false → (decide (way = (2 : Int)) = true → Ob (inI64 (t - (1 : Int))) ∧ Ob ((0 : Int) ≤ t - (1 : Int) ∧ t - (1 : Int) ≤
  t) ∧ Ob (inI64 (z - (1 : Int))) ∧ Ob ((0 : Int) ≤ z - (1 : Int) ∧ z - (1 : Int) < z) ∧ (decide ((6000 : Int) < (↑X3.length : Int)) = true → Ob (G X3) ∧ Ob ((bif decide (B X3 =
  (2 : Int)) then decide (A X3 = (0 : Int)) else false) = true → inI64 ((↑(P X3).ops.length : Int) + (↑(P X3).ins.length : Int))) ∧ Ob ((bif decide (B X3 = (2 : Int)) then decide
  (A X3 = (0 : Int)) else false) = true → inI64 ((↑(P X3).ops.length : Int) + (↑(P X3).ins.length : Int) + (↑(P X3).mons.length : Int))) ∧ (bif bif decide (B X3 = (2 : Int)) then
  decide (A X3 = (0 : Int)) else false then decide ((↑(P X3).ops.length : Int) + (↑(P X3).ins.length : Int) + (↑(P X3).mons.length : Int) = (0 : Int)) else false) = true) ∧
  (decide ((6000 : Int) < (↑X3.length : Int)) = false → Ob (G X3) ∧ Ob ((bif decide (B X3 = (8 : Int)) then decide (A X3 = L) else false) = true → inI64 ((↑(P X3).ops.length :
  Int) + (↑(P X3).ins.length : Int))) ∧ Ob ((bif decide (B X3 = (8 : Int)) then decide (A X3 = L) else false) = true → inI64 ((↑(P X3).ops.length : Int) + (↑(P X3).ins.length :
  Int) + (↑(P X3).mons.length : Int))) ∧ (bif bif decide (B X3 = (8 : Int)) then decide (A X3 = L) else false then decide ((↑(P X3).ops.length : Int) + (↑(P X3).ins.length : Int)
  + (↑(P X3).mons.length : Int) = (0 : Int)) else false) = true)) ∧ (decide (way = (2 : Int)) = false → (decide (way = (3 : Int)) = true → Ob (List.length T + [(68 : UInt8), (67
  : UInt8), (76 : UInt8), (32 : UInt8), (80 : UInt8), (84 : UInt8), (82 : UInt8), (32 : UInt8), (90 : UInt8), (90 : UInt8), (90 : UInt8), (90 : UInt8), (90 : UInt8), (90 :
  UInt8), (90 : UInt8), (90 : UInt8), (90 : UInt8), (90 : UInt8), (59 : UInt8), (10 : UInt8)].length ≤ (9223372036854775807 : Nat)) ∧ (decide ((6000 : Int) < (↑X4.length : Int))
  = true → Ob (G X4) ∧ Ob ((bif decide (B X4 = (2 : Int)) then decide (A X4 = (0 : Int)) else false) = true → inI64 ((↑(P X4).ops.length : Int) + (↑(P X4).ins.length : Int))) ∧
  Ob ((bif decide (B X4 = (2 : Int)) then decide (A X4 = (0 : Int)) else false) = true → inI64 ((↑(P X4).ops.length : Int) + (↑(P X4).ins.length : Int) + (↑(P X4).mons.length :
  Int))) ∧ (bif bif decide (B X4 = (2 : Int)) then decide (A X4 = (0 : Int)) else false then decide ((↑(P X4).ops.length : Int) + (↑(P X4).ins.length : Int) + (↑(P
  X4).mons.length : Int) = (0 : Int)) else false) = true) ∧ (decide ((6000 : Int) < (↑X4.length : Int)) = false → Ob (G X4) ∧ Ob ((bif decide (B X4 = (8 : Int)) then decide (A X4
  = t) else false) = true → inI64 ((↑(P X4).ops.length : Int) + (↑(P X4).ins.length : Int))) ∧ Ob ((bif decide (B X4 = (8 : Int)) then decide (A X4 = t) else false) = true →
  inI64 ((↑(P X4).ops.length : Int) + (↑(P X4).ins.length : Int) + (↑(P X4).mons.length : Int))) ∧ (bif bif decide (B X4 = (8 : Int)) then decide (A X4 = t) else false then
  decide ((↑(P X4).ops.length : Int) + (↑(P X4).ins.length : Int) + (↑(P X4).mons.length : Int) = (0 : Int)) else false) = true)) ∧ (decide (way = (3 : Int)) = false → (decide
  ((6000 : Int) < (↑([] : Str).length : Int)) = true → Ob (G []) ∧ Ob ((bif decide (B [] = (2 : Int)) then decide (A [] = (0 : Int)) else false) = true → inI64 ((↑(P
  []).ops.length : Int) + (↑(P []).ins.length : Int))) ∧ Ob ((bif decide (B [] = (2 : Int)) then decide (A [] = (0 : Int)) else false) = true → inI64 ((↑(P []).ops.length : Int)
  + (↑(P []).ins.length : Int) + (↑(P []).mons.length : Int))) ∧ (bif bif decide (B [] = (2 : Int)) then decide (A [] = (0 : Int)) else false then decide ((↑(P []).ops.length :
  Int) + (↑(P []).ins.length : Int) + (↑(P []).mons.length : Int) = (0 : Int)) else false) = true) ∧ (decide ((6000 : Int) < (↑([] : Str).length : Int)) = false → Ob (G []) ∧ Ob
  ((bif decide (B [] = (8 : Int)) then decide (A [] = F) else false) = true → inI64 ((↑(P []).ops.length : Int) + (↑(P []).ins.length : Int))) ∧ Ob ((bif decide (B [] = (8 :
  Int)) then decide (A [] = F) else false) = true → inI64 ((↑(P []).ops.length : Int) + (↑(P []).ins.length : Int) + (↑(P []).mons.length : Int))) ∧ (bif bif decide (B [] = (8 :
  Int)) then decide (A [] = F) else false then decide ((↑(P []).ops.length : Int) + (↑(P []).ins.length : Int) + (↑(P []).mons.length : Int) = (0 : Int)) else false) =
  true))))))))))))
structure Refused (P : Str → Prg) (A B : Str → Int) (G : Str → Prop) (X : Str) (a : Int) : Prop where
  g : G X
  p : P X = prg0
  large : 6000 < X.length → A X = 0 ∧ B X = 2
  small : ¬ 6000 < X.length → A X = a ∧ B X = 8
theorem top_leaf {P : Str → Prg} {A B : Str → Int} {G : Str → Prop} {X : Str} {a : Int} (h : Refused P A B G X a) :
    (decide ((6000 : Int) < (X.length : Int)) = true → Ob (G X) ∧ Ob ((bif decide (B X = 2) then decide (A X = 0) else false) = true → inI64 (((P X).ops.length : Int) + ((P X).ins.length : Int))) ∧
      Ob ((bif decide (B X = 2) then decide (A X = 0) else false) = true → inI64 (((P X).ops.length : Int) + ((P X).ins.length : Int) + ((P X).mons.length : Int))) ∧
      (bif bif decide (B X = 2) then decide (A X = 0) else false then decide (((P X).ops.length : Int) + ((P X).ins.length : Int) + ((P X).mons.length : Int) = 0) else false) = true) ∧
    (decide ((6000 : Int) < (X.length : Int)) = false → Ob (G X) ∧ Ob ((bif decide (B X = 8) then decide (A X = a) else false) = true → inI64 (((P X).ops.length : Int) + ((P X).ins.length : Int))) ∧
      Ob ((bif decide (B X = 8) then decide (A X = a) else false) = true → inI64 (((P X).ops.length : Int) + ((P X).ins.length : Int) + ((P X).mons.length : Int))) ∧
      (bif bif decide (B X = 8) then decide (A X = a) else false then decide (((P X).ops.length : Int) + ((P X).ins.length : Int) + ((P X).mons.length : Int) = 0) else false) = true) := by
  have e1 : ((P X).ops.length : Int) = 0 := by rw [h.p]; rfl
  have e2 : ((P X).ins.length : Int) = 0 := by rw [h.p]; rfl
  have e3 : ((P X).mons.length : Int) = 0 := by rw [h.p]; rfl
  rw [e1, e2, e3]
  refine And.intro (fun hl => ?_) (fun hl => ?_)
  · have hl := of_decide_eq_true hl
    obtain ⟨a1, a2⟩ := h.large (by omega)
    rw [a1, a2]
    exact ⟨⟨h.g⟩, ⟨fun _ => ⟨by decide, by decide⟩⟩, ⟨fun _ => ⟨by decide, by decide⟩⟩, by decide⟩
  · have hl := of_decide_eq_false hl
    obtain ⟨a1, a2⟩ := h.small (by omega)
    rw [a1, a2]
    exact ⟨⟨h.g⟩, ⟨fun _ => ⟨by decide, by decide⟩⟩, ⟨fun _ => ⟨by decide, by decide⟩⟩, by simp⟩
theorem top_key {p : Prg} {line way : Int} {b : Bool} {c E : Int} {T W : Str} {S : List Int} {P : Str → Prg} {A B : Str → Int} {G : Str → Prop} {q F N z t L : Int} {X0 X1 X2 X3 X4 : Str}
    (hV : c = 0 → Valid p) (hE : Valid p → (E = 2 ∧ 6000 < W.length) ∨ E = 0)
    (hG : Valid p → E = 0 → G T ∧ P T = p ∧ A T = 0 ∧ B T = 0 ∧ t = T.length ∧ T.length ≤ 6000 ∧ 0 < z ∧ z ≤ 10000)
    (hq : 0 ≤ line → 0 < z → 0 ≤ q ∧ q < z)
    (hF : Valid p → E = 0 → 0 ≤ q → q < z → (0 ≤ F ∧ F ≤ t) ∧ (q + 1 < z → F + 3 ≤ N ∧ N ≤ t ∧ Refused P A B G X1 F) ∧ (¬ q + 1 < z → F + 3 ≤ t ∧ Refused P A B G X2 F) ∧
      Refused P A B G X0 F ∧ Refused P A B G X3 L ∧ Refused P A B G X4 t) : TopP p line way b c E T W S P A B G q F N z t L X0 X1 X2 X3 X4 := by
  unfold TopP
  refine And.intro ⟨rfl⟩ (And.intro ⟨fun _ => rfl⟩ (And.intro (fun _ => rfl) (fun h => ?_)))
  simp only [Bool.or_eq_false_iff, Bool.not_eq_false', decide_eq_true_eq, Bool.and_eq_true] at h
  obtain ⟨⟨_, hc⟩, hw0, hw3⟩ := h
  have V := hV hc
  refine And.intro ⟨rfl, V⟩ (And.intro ⟨rfl, V⟩ (And.intro (fun he => ?_) (fun he => ?_)))
  · have he : ¬ E = 0 := by simpa using he
    obtain ⟨h2, h6⟩ := (hE V).resolve_right he
    refine And.intro ⟨fun _ => ⟨rfl, V⟩⟩ ?_
    rw [decide_eq_true h2, decide_eq_true (by omega)]
    rfl
  · have he : E = 0 := by simpa using he
    obtain ⟨g1, g2, g3, g4, g5, g6, g7, g8⟩ := hG V he
    rw [g2, g3, g4]
    refine And.intro ⟨g1⟩ (And.intro ⟨fun _ => ⟨rfl, rfl, V⟩⟩ (And.intro (fun h => by simp at h) (fun _ => And.intro ⟨rfl, by omega⟩ (And.intro (fun h => ?_) (fun h => ?_)))))
    · simp only [Bool.or_eq_true, decide_eq_true_eq] at h
      exact decide_eq_true (by omega)
    · simp only [Bool.or_eq_false_iff, decide_eq_false_iff_not] at h
      obtain ⟨q0, q1⟩ := hq (by omega) g7
      obtain ⟨⟨f0, f1⟩, f2, f3, f4, f5, f6⟩ := hF V he q0 q1
      refine And.intro ⟨by omega⟩ (And.intro ⟨by omega, by omega⟩ (And.intro ⟨by constructor <;> omega⟩ (And.intro (fun h1 => ?_) (fun h1 => ?_))))
      · have h1 := of_decide_eq_true h1
        obtain ⟨n1, n2, n3⟩ := f2 h1
        refine And.intro ⟨by constructor <;> omega⟩ (And.intro ⟨by omega, by omega⟩ (And.intro ⟨by constructor <;> omega⟩ (And.intro (fun h2 => absurd (of_decide_eq_true h2) (by omega)) (fun h2 => And.intro (fun w0 => ?_) (fun w0 => And.intro (fun w1 => ?_) (fun w1 => And.intro (fun w2 => ?_) (fun w2 => And.intro (fun w3 => ?_) (fun w3 => ?_))))))))
        · exact And.intro ⟨by omega, by omega⟩ (And.intro ⟨by simp only [List.length_take, List.length_drop, List.length_cons, List.length_nil]; omega⟩ (And.intro ⟨by omega, by omega⟩ (And.intro ⟨by simp only [List.length_append, List.length_take, List.length_drop, List.length_cons, List.length_nil]; omega⟩ (top_leaf f4))))
        · exact And.intro ⟨by constructor <;> omega⟩ (And.intro ⟨by omega, by omega⟩ (And.intro ⟨by constructor <;> omega⟩ (And.intro ⟨by omega, by omega⟩ (And.intro ⟨by simp only [List.length_take, List.length_drop]; omega⟩ (top_leaf n3)))))
        · exact And.intro ⟨by constructor <;> omega⟩ (And.intro ⟨by omega, by omega⟩ (And.intro ⟨by constructor <;> omega⟩ (And.intro ⟨by omega, by omega⟩ (top_leaf f5))))
        · exact And.intro ⟨by simp only [List.length_cons, List.length_nil]; omega⟩ (top_leaf f6)
        · have a0 := of_decide_eq_false w0
          have a1 := of_decide_eq_false w1
          have a2 := of_decide_eq_false w2
          have a3 := of_decide_eq_false w3
          omega
      · have h1 := of_decide_eq_false h1
        obtain ⟨n1, n3⟩ := f3 h1
        refine And.intro ⟨by constructor <;> omega⟩ (And.intro (fun h2 => absurd (of_decide_eq_true h2) (by omega)) (fun h2 => And.intro (fun w0 => ?_) (fun w0 => And.intro (fun w1 => ?_) (fun w1 => And.intro (fun w2 => ?_) (fun w2 => And.intro (fun w3 => ?_) (fun w3 => ?_))))))
        · exact And.intro ⟨by omega, by omega⟩ (And.intro ⟨by simp only [List.length_take, List.length_drop, List.length_cons, List.length_nil]; omega⟩ (And.intro ⟨by omega, by omega⟩ (And.intro ⟨by simp only [List.length_append, List.length_take, List.length_drop, List.length_cons, List.length_nil]; omega⟩ (top_leaf f4))))
        · exact And.intro ⟨by constructor <;> omega⟩ (And.intro ⟨by omega, by omega⟩ (And.intro ⟨by constructor <;> omega⟩ (And.intro ⟨by omega, by omega⟩ (And.intro ⟨by simp only [List.length_take, List.length_drop]; omega⟩ (top_leaf n3)))))
        · exact And.intro ⟨by constructor <;> omega⟩ (And.intro ⟨by omega, by omega⟩ (And.intro ⟨by constructor <;> omega⟩ (And.intro ⟨by omega, by omega⟩ (top_leaf f5))))
        · exact And.intro ⟨by simp only [List.length_cons, List.length_nil]; omega⟩ (top_leaf f6)
        · have a0 := of_decide_eq_false w0
          have a1 := of_decide_eq_false w1
          have a2 := of_decide_eq_false w2
          have a3 := of_decide_eq_false w3
          omega
end Go.Proofs.YtgcnbicoajjlaaaGreatDoor
end
section
set_option linter.unusedVariables false
set_option linter.unusedSimpArgs false
set_option maxRecDepth 100000
namespace Go.Proofs.YtgcnbicoajjlaaaGreatDoor
open Go Go.Eng Go.Tx
variable {m : Int}
theorem run_need_mk {α : Type} {p : Prop} (h : p) (r : α) : (Eng.Tr.need p (.ret r)).run = some r := by simp [Eng.Tr.run, h]
theorem self_prg (p : Prg) : eqv (aPrg p) (aPrg p) := ⟨⟨rfl, fun _ _ => rfl⟩, ⟨rfl, fun _ _ => rfl⟩, rfl, fun _ _ => rfl⟩
theorem ats_part {p q : Int} {L : List Str} {X : List Ln} (h : Go.Tx.Good p L X q) : ∀ a, (∀ x ∈ X, x.part = 1 ∨ x.part = 2 ∨ x.part = 3) → ∀ x ∈ ats a L X, x.part = 1 ∨ x.part = 2 ∨ x.part = 3 := by
  induction h with
  | nil p => intro a _ x hx; cases hx
  | @cons p q l y L X h1 h2 h3 t ih =>
    intro a hX x hx
    rw [ats] at hx
    rcases List.mem_cons.1 hx with e | hx
    · subst e
      exact hX y (List.mem_cons_self ..)
    · exact ih _ (fun y hy => hX y (List.mem_cons_of_mem _ hy)) x hx
theorem ats_length {p q : Int} {L : List Str} {X : List Ln} (h : Go.Tx.Good p L X q) : ∀ a, (ats a L X).length = L.length := by
  induction h with
  | nil p => intro a; rfl
  | cons h1 h2 h3 t ih =>
    intro a
    rw [ats, List.length_cons, ih, List.length_cons]
theorem lines_le {p : Prg} (hV : Valid p) : (progLines p).length ≤ 70 := by
  have h1 := hV.nops
  have h2 := hV.nins
  have h3 := hV.nmons
  unfold progLines
  simp only [List.length_append, List.length_map]
  omega
theorem prgLns_part (p : Prg) : ∀ x ∈ prgLns p, x.part = 1 ∨ x.part = 2 ∨ x.part = 3 := by
  intro x hx
  unfold prgLns at hx
  simp only [List.mem_append, List.mem_map] at hx
  rcases hx with (⟨o, _, rfl⟩ | ⟨o, _, rfl⟩) | ⟨o, _, rfl⟩
  · exact .inl rfl
  · exact .inr (.inl rfl)
  · exact .inr (.inr rfl)
noncomputable def Gd (s : Str) : Prop := s.length ≤ 9000 ∧ (s.length ≤ 6000 → (scan s.length 0 1 s).1 = none → PrgLns (scan s.length 0 1 s).2)
theorem gd_text {p : Prg} (hV : Valid p) (hl : (progText p).length ≤ 6000) : Gd (progText p) := by
  have hP := prgOk_of hV
  obtain ⟨q, hq, hg⟩ := prg_good hP
  refine ⟨by omega, fun _ _ => ?_⟩
  rw [progText_flat, scan_all hg (Nat.le_refl _)]
  refine ⟨?_, ?_, ?_⟩
  · show Valid (prgOfLns (ats 0 (progLines p) (prgLns p)))
    rw [prg_back hP hg]
    exact hV
  · exact ats_part hg 0 (prgLns_part p)
  · show (ats 0 (progLines p) (prgLns p)).length ≤ 10000
    rw [ats_length hg]
    have := lines_le hV
    omega
theorem gd_bad {X : Str} {a : Nat} (h : BadAt X a) (hl : X.length ≤ 9000) : Gd X := ⟨hl, fun _ e => by rw [h.scan] at e; cases e⟩
noncomputable def pP (s : Str) : Prg := (parseOf s).1
noncomputable def pA (s : Str) : Int := (parseOf s).2.1
noncomputable def pB (s : Str) : Int := (parseOf s).2.2
theorem refused {X : Str} {a : Nat} {b : Int} (h : BadAt X a) (hl : X.length ≤ 9000) (e : b = (a : Int)) : Refused pP pA pB Gd X b := by
  subst e
  refine ⟨gd_bad h hl, ?_, fun h6 => ?_, fun h6 => ?_⟩
  · unfold pP; rw [h.parse]
  · unfold pA pB
    rw [h.parse]
    simp only [if_pos h6]
    exact ⟨trivial, trivial⟩
  · unfold pA pB
    rw [h.parse]
    simp only [if_neg h6]
    exact ⟨trivial, trivial⟩
theorem startsI_get (s : Str) (k : Nat) : (startsI s).getD k 0 = (((startsFrom true 0 s).getD k 0 : Nat) : Int) := by
  unfold startsI
  by_cases h : k < (startsFrom true 0 s).length
  · rw [List.getD_eq_getElem?_getD, List.getElem?_map, List.getElem?_eq_getElem h, List.getD_eq_getElem?_getD, List.getElem?_eq_getElem h]
    rfl
  · rw [List.getD_eq_getElem?_getD, List.getElem?_eq_none (by rw [List.length_map]; omega), List.getD_eq_getElem?_getD, List.getElem?_eq_none (by omega)]
    rfl
theorem startsI_len (s : Str) : (startsI s).length = (startsFrom true 0 s).length := by unfold startsI; rw [List.length_map]
theorem take_z (s : Str) (n : Nat) : List.take (n - 0) (List.drop 0 s) = s.take n := by rw [Nat.sub_zero, List.drop_zero]
theorem take_rest (s : Str) (n : Nat) : List.take (s.length - n) (List.drop n s) = s.drop n := List.take_of_length_le (by rw [List.length_drop]; omega)
theorem top_core (p : Prg) (line way : Int) : Ok m 3 (fun xs => .need (∃ v, xs = [v, I line, I way] ∧ eqv (aPrg p) v) (.ret (.prop true))) := by
  have k4 : Ok m 4 (K4 p (fewB p)) := ok_less ok4 fun xs r hr => by
    unfold K4 at hr
    split at hr
    · rename_i v
      obtain ⟨e, hr⟩ := Tr.run_need hr
      have e2 := Tr.run_ret hr
      subst e
      subst e2
      have := prg_eqv (self_prg p)
      show (Eng.Tr.need _ (Eng.Tr.ret (AV.prop (fewB (prgOf (aPrg p)))))).run = _
      rw [this]
      exact run_need_mk ⟨p, self_prg p⟩ _
    · exact (Tr.run_fail hr).elim
  have k5 : Ok m 5 (K5 p (checkErr p)) := ok_less ok5 fun xs r hr => by
    unfold K5 at hr
    split at hr
    · rename_i v
      obtain ⟨e, hr⟩ := Tr.run_need hr
      have e2 := Tr.run_ret hr
      subst e
      subst e2
      have := prg_eqv (self_prg p)
      show (Eng.Tr.need _ (Eng.Tr.ret (AV.int .i64 (checkErr (prgOf (aPrg p)))))).run = _
      rw [this]
      exact run_need_mk ⟨p, self_prg p⟩ _
    · exact (Tr.run_fail hr).elim
  have small : Valid p → p.ops.length ≤ 1000 ∧ p.ins.length ≤ 1000 ∧ p.mons.length ≤ 1000 ∧ ∀ x ∈ p.ins, x.args.length ≤ 1000 := fun hV => by
    have h1 := hV.nops
    have h2 := hV.nins
    have h3 := hV.nmons
    refine ⟨by omega, by omega, by omega, fun x hx => ?_⟩
    have := args_len (hV.ins x hx)
    omega
  have k8 : Ok m 8 (K8 p) := ok_less ok8 fun xs r hr => by
    unfold K8 at hr
    split at hr
    · rename_i v
      obtain ⟨⟨e, hV⟩, hr⟩ := Tr.run_need hr
      have e2 := Tr.run_ret hr
      subst e
      subst e2
      have := prg_eqv (self_prg p)
      show (Eng.Tr.need _ (Eng.Tr.ret (aPrg (prgOf (aPrg p))))).run = _
      rw [this]
      exact run_need_mk ⟨p, self_prg p, small hV⟩ _
    · exact (Tr.run_fail hr).elim
  have k7 : Ok m 7 (K7 p (if 6000 < (progText p).length then [] else progText p) (if 6000 < (progText p).length then 2 else 0)) := ok_less (ok7 ok97) fun xs r hr => by
    unfold K7 at hr
    split at hr
    · rename_i v
      obtain ⟨⟨e, hV⟩, hr⟩ := Tr.run_need hr
      have e2 := Tr.run_ret hr
      subst e
      subst e2
      have := prg_eqv (self_prg p)
      show (Eng.Tr.need _ (Eng.Tr.ret (AV.tup [.str (if 6000 < (progText (prgOf (aPrg p))).length then [] else progText (prgOf (aPrg p))), .int .i64 (if 6000 < (progText (prgOf (aPrg p))).length then 2 else 0)]))).run = _
      rw [this]
      exact run_need_mk ⟨p, self_prg p, hV⟩ _
    · exact (Tr.run_fail hr).elim
  have k9 : Ok m 9 (K9 p (progText p)) := ok_less ok9 fun xs r hr => by
    unfold K9 at hr
    split at hr
    · rename_i v
      obtain ⟨⟨e, hV⟩, hr⟩ := Tr.run_need hr
      have e2 := Tr.run_ret hr
      subst e
      subst e2
      have := prg_eqv (self_prg p)
      show (Eng.Tr.need _ (Eng.Tr.ret (AV.str (progText (prgOf (aPrg p)))))).run = _
      rw [this]
      exact run_need_mk ⟨p, self_prg p, hV⟩ _
    · exact (Tr.run_fail hr).elim
  have k10 : Ok m 10 (K10 pP pA pB Gd) := ok_less ok10 fun xs r hr => by
    unfold K10 at hr
    split at hr
    · rename_i s
      obtain ⟨e, hr⟩ := Tr.run_need hr
      have e2 := Tr.run_ret hr
      subst e2
      unfold Cparse
      exact run_need_mk e _
    · exact (Tr.run_fail hr).elim
  have k11 : Ok m 11 (K11 p) := ok_less ok11 fun xs r hr => by
    unfold K11 at hr
    split at hr
    · rename_i v u
      obtain ⟨⟨e, e', hV⟩, hr⟩ := Tr.run_need hr
      have e2 := Tr.run_ret hr
      subst e
      subst e'
      subst e2
      unfold Csame
      exact run_need_mk ⟨p, self_prg p, self_prg p, small hV⟩ _
    · exact (Tr.run_fail hr).elim
  have k12 : Ok m 12 (K12 (if 6000 < (progText p).length then [] else progText p) (startsI (if 6000 < (progText p).length then [] else progText p))) := ok_less ok12 fun xs r hr => by
    unfold K12 at hr
    split at hr
    · rename_i s
      obtain ⟨⟨e, h1⟩, hr⟩ := Tr.run_need hr
      have e2 := Tr.run_ret hr
      subst e2
      rw [← e]
      unfold Cstarts
      exact run_need_mk h1 _
    · exact (Tr.run_fail hr).elim
  refine fn_ok2 (cons_cons k4 (cons_cons k5 (cons_cons ok6 (cons_cons k8 (cons_cons k7 (cons_cons k9 (cons_cons k10 (cons_cons k11 (cons_cons k12 cons_nil))))))))) Tryz.func3 (by kernel_rfl) fun xs r hr hp => ?_
  obtain ⟨⟨v, hxs, hl⟩, hr2⟩ := Tr.run_need hr
  have e := Tr.run_ret hr2
  subst hxs
  subst e
  clear hr hr2 hp k4 k5 k8 k7 k9 k10 k11 k12 small
  refine ⟨[aPrg p, I line, I way], [], prg_args hl _, ?_⟩
  generalize hb : fewB p = b
  generalize hc : checkErr p = c
  generalize hW : progText p = W
  generalize hT : (if 6000 < W.length then [] else W) = T
  generalize hE : (if 6000 < W.length then (2 : Int) else 0) = E
  generalize hS : startsI T = S
  refine of_nice (TopP p line way b c E T W S pP pA pB Gd (line.tmod (↑S.length : Int)) (S.getD (line.tmod (↑S.length : Int)).toNat (0 : Int)) (S.getD (line.tmod (↑S.length : Int) + (1 : Int)).toNat (0 : Int)) (↑S.length : Int)
    (↑(List.length T) : Int) (S.getD ((↑S.length : Int) - (1 : Int)).toNat (0 : Int))
    (List.take ((S.getD (line.tmod (↑S.length : Int)).toNat (0 : Int)).toNat - (0 : Nat)) (List.drop (0 : Nat) T) ++ [(97 : UInt8)] ++ List.take (List.length T - (S.getD (line.tmod (↑S.length : Int)).toNat (0 : Int)).toNat) (List.drop (S.getD (line.tmod (↑S.length : Int)).toNat (0 : Int)).toNat T))
    (List.take (((S.getD (line.tmod (↑S.length : Int) + (1 : Int)).toNat (0 : Int)) - (2 : Int)).toNat - (0 : Nat)) (List.drop (0 : Nat) T) ++ List.take (List.length T - ((S.getD (line.tmod (↑S.length : Int) + (1 : Int)).toNat (0 : Int)) - (1 : Int)).toNat) (List.drop ((S.getD (line.tmod (↑S.length : Int) + (1 : Int)).toNat (0 : Int)) - (1 : Int)).toNat T))
    (List.take (((↑(List.length T) : Int) - (2 : Int)).toNat - (0 : Nat)) (List.drop (0 : Nat) T) ++ List.take (List.length T - ((↑(List.length T) : Int) - (1 : Int)).toNat) (List.drop ((↑(List.length T) : Int) - (1 : Int)).toNat T))
    (List.take (((↑(List.length T) : Int) - (1 : Int)).toNat - (0 : Nat)) (List.drop (0 : Nat) T))
    (T ++ [(68 : UInt8), (67 : UInt8), (76 : UInt8), (32 : UInt8), (80 : UInt8), (84 : UInt8), (82 : UInt8), (32 : UInt8), (90 : UInt8), (90 : UInt8), (90 : UInt8), (90 : UInt8), (90 : UInt8), (90 : UInt8), (90 : UInt8), (90 : UInt8), (90 : UInt8), (90 : UInt8), (59 : UInt8), (10 : UInt8)])) (by kernel_rfl) ?_
  have hT6 : E = 0 → ¬ 6000 < W.length ∧ T = W := fun he => by
    by_cases h6 : 6000 < W.length
    · rw [if_pos h6] at hE; omega
    · rw [if_neg h6] at hT
      exact ⟨h6, hT.symm⟩
  have hSl : S.length = (startsFrom true 0 T).length := by rw [← hS, startsI_len]
  have hSg : ∀ k, S.getD k 0 = (((startsFrom true 0 T).getD k 0 : Nat) : Int) := fun k => by rw [← hS, startsI_get]
  refine top_key (fun h => valid_of (hc.trans h)) (fun V => ?_) (fun V he => ?_) (fun h0 h1 => ?_) (fun V he q0 q1 => ?_)
  · by_cases h6 : 6000 < W.length
    · rw [if_pos h6] at hE; exact .inl ⟨hE.symm, h6⟩
    · rw [if_neg h6] at hE; exact .inr hE.symm
  · obtain ⟨h6, e⟩ := hT6 he
    have hP := prgOk_of V
    subst e
    have ht := gd_text V (by rw [hW]; omega)
    have hp := parse_text hP (by rw [hW]; omega)
    have hz := lines_pos hP
    have hz2 := lines_le V
    have hs := starts_length hP
    rw [hW] at ht hp hs
    unfold pP pA pB
    rw [hp, hSl, hs]
    exact ⟨ht, rfl, rfl, rfl, rfl, by omega, by omega, by omega⟩
  · refine ⟨Int.tmod_nonneg _ h0, Int.tmod_lt_of_pos _ h1⟩
  · obtain ⟨h6, e⟩ := hT6 he
    have hP := prgOk_of V
    subst e
    have hz := lines_pos hP
    have hs := starts_length hP
    rw [hW] at hs
    rw [hSl, hs] at q1
    simp only [take_z, take_rest]
    rw [hSl, hs] at q0
    rw [hSl, hs]
    generalize hq : line.tmod (((progLines p).length : Nat) : Int) = q at *
    have hmore := more_bad hP
    rw [hW] at hmore
    obtain ⟨F, N, f1, f2, f3, f4, f5, f6, f7, f8⟩ := line_facts hP (k := q.toNat) (by omega)
    obtain ⟨L, M, l1, l2, l3, l4, l5, l6, l7, l8⟩ := line_facts hP (k := (progLines p).length - 1) (by omega)
    rw [hW] at f1 f3 f4 f5 f6 f7 f8 l1 l3 l4 l5 l6 l7 l8
    have g1 : S.getD q.toNat 0 = (F : Int) := by rw [hSg, f1]
    have g2 : S.getD ((((progLines p).length : Nat) : Int) - 1).toNat 0 = (L : Int) := by rw [show ((((progLines p).length : Nat) : Int) - 1).toNat = (progLines p).length - 1 by omega, hSg, l1]
    rw [g1, g2]
    refine ⟨⟨by omega, by omega⟩, fun h1 => ?_, fun h1 => ?_, ?_, ?_, ?_⟩
    · have g3 : S.getD (q + 1).toNat 0 = (N : Int) := by rw [show (q + 1).toNat = q.toNat + 1 by omega, hSg, f4 (by omega)]
      rw [g3]
      refine ⟨by omega, by omega, ?_⟩
      rw [show ((N : Int) - 2).toNat = N - 2 by omega, show ((N : Int) - 1).toNat = N - 1 by omega]
      exact refused f7 (by simp only [List.length_append, List.length_take, List.length_drop]; omega) rfl
    · have e := f5 (by omega)
      refine ⟨by omega, ?_⟩
      rw [show ((T.length : Int) - 2).toNat = N - 2 by omega, show ((T.length : Int) - 1).toNat = N - 1 by omega]
      exact refused f7 (by simp only [List.length_append, List.length_take, List.length_drop]; omega) rfl
    · rw [show ((F : Int)).toNat = F by omega]
      exact refused f6 (by simp only [List.length_append, List.length_take, List.length_drop, List.length_cons, List.length_nil]; omega) rfl
    · rw [show ((T.length : Int) - 1).toNat = T.length - 1 by omega]
      exact refused (l8 (by omega)) (by simp only [List.length_take]; omega) rfl
    · exact refused hmore (by rw [List.length_append]; show T.length + 20 ≤ 9000; omega) rfl
noncomputable def Ctop : Con
  | [v, .int .i64 line, .int .i64 way] => .need (∃ p, eqv (aPrg p) v) (.ret (.prop true))
  | _ => .fail
theorem ok3 : Ok m 3 Ctop := fun xs r hr hp => by
  unfold Ctop at hr
  split at hr
  · rename_i v line way
    obtain ⟨⟨p, hl⟩, hr⟩ := Tr.run_need hr
    have e := Tr.run_ret hr
    subst e
    exact top_core p line way _ _ (run_need_mk ⟨v, rfl, hl⟩ _) hp
  · exact (Tr.run_fail hr).elim
end Go.Proofs.YtgcnbicoajjlaaaGreatDoor
end
section
set_option linter.unusedVariables false
set_option linter.unusedSimpArgs false
set_option maxRecDepth 100000
namespace Go.Proofs.YtgcnbicoajjlaaaGreatDoor
open Go Go.Eng Go.Tx
def stW (w : World) : Stab := fun b _ => b < w.heap.size
theorem sta_W (w : World) : Sta w (stW w) := fun _ _ h => h
theorem cell_lt {w : World} {b o : Nat} {v : Value} (h : w.cell? ⟨b, o, none⟩ = some v) : b < w.heap.size := by
  unfold World.cell? at h
  split at h
  · rename_i e
    exact (Array.getElem?_eq_some_iff.1 e).1
  · cases h
theorem spot_none {w : World} {a : Addr} {v : Value} (h : w.cell? a = some v) : a.spot = none := by
  unfold World.cell? at h
  split at h
  · split at h
    · cases h
    · rename_i hs
      cases hx : a.spot with
      | none => rfl
      | some y => rw [hx] at hs; exact absurd rfl hs
  · cases h
theorem add_zero (a : Addr) : a.add 0 = a := rfl
theorem add_add (b o x y : Nat) : ((⟨b, o, none⟩ : Addr).add x).add y = ⟨b, o + x + y, none⟩ := by
  unfold Addr.add
  by_cases h0 : x = 0 <;> by_cases h1 : y = 0 <;> simp [h0, h1]
theorem list_ex {α : Type} (d : α) {P : Nat → α → Prop} : ∀ n, (∀ i, i < n → ∃ x, P i x) → ∃ l : List α, l.length = n ∧ ∀ i, i < n → P i (l.getD i d)
  | 0, _ => ⟨[], rfl, fun i h => absurd h (Nat.not_lt_zero i)⟩
  | n + 1, h => by
    obtain ⟨l, hl, hp⟩ := list_ex d n fun i hi => h i (by omega)
    obtain ⟨x, hx⟩ := h n (by omega)
    refine ⟨l ++ [x], by simp [hl], fun i hi => ?_⟩
    by_cases e : i < n
    · rw [List.getD_eq_getElem?_getD, List.getElem?_append_left (by omega), ← List.getD_eq_getElem?_getD]
      exact hp i e
    · have : i = n := by omega
      subst this
      rw [List.getD_eq_getElem?_getD, List.getElem?_append_right (by omega), hl, Nat.sub_self]
      exact hx
theorem cells_get {w : World} {base : Nat} {a : Addr} {n : Nat} {cs : List Value} (h : w.cells? base a n = some cs) : cs.length = n ∧ ∀ j, j < n → w.cell? (a.add j) = cs[j]? := by
  unfold World.cells? at h
  split at h
  · exact ⟨by simpa using mapM_some_length h, fun j hj => mapM_some_get h j j (by simp [hj])⟩
  · cases h
section
variable {H : Type} {en : TypeId × Value → H} {w : World} {base : Nat} {sp : Nat → Bool} {held : Bool}
theorem sl_of {α : Type} {enc : α → List AV} {d : α} {Q : α → DataW H → Prop} {t e sz : Nat} (ht : Tryz.prog.underlying t = some (.slice e)) (hc : Tryz.prog.cellsOf e = sz) (hs : 0 < sz)
    (hel : ∀ n cs y, DataW.trod en Tryz.prog w base sp held n e cs = some y → ∃ a, All2 (PV w (stW w)) (enc a) cs ∧ Q a y.1) {fuel : Nat} {cs : List Value} {x : DataW H × List MemPlace}
    (h : DataW.trod en Tryz.prog w base sp held fuel t cs = some x) :
    ∃ (l : List α) (v : Value), cs = [v] ∧ PV w (stW w) (.sl false sz l.length (fun i => enc (l.getD i d))) v ∧
      ((x.1 = .nil ∧ l = []) ∨ ∃ els rest, x.1 = .slice els rest ∧ els.length = l.length ∧ ∀ i, i < l.length → ∃ y, els[i]? = some y ∧ Q (l.getD i d) y) := by
  rcases DataW.trod_slice ht h with ⟨rfl, rfl⟩ | ⟨a, len, cap, elems, rest, n, _, rfl, rfl, hb, hlc, hcm, hlen, hel', _, _⟩
  · exact ⟨[], _, rfl, PV.sl false sz 0 0 _ none 0 0 (fun _ _ => default) (Nat.le_refl _) (fun h => rfl) (Nat.zero_le _) (fun h => absurd h (Nat.lt_irrefl _)) (fun i h => absurd h (Nat.not_lt_zero _)) (fun i j h => absurd h (Nat.not_lt_zero _)) (fun i j h => absurd h (Nat.not_lt_zero _))
      (fun i j h => absurd h (Nat.not_lt_zero _)), .inl ⟨rfl, rfl⟩⟩
  · rw [hc] at hel'
    obtain ⟨l, hl, hp⟩ := list_ex d (P := fun i x => ∃ cs y, w.cells? base (a.add (i * sz)) sz = some cs ∧ elems[i]? = some y ∧ All2 (PV w (stW w)) (enc x) cs ∧ Q x y.1) len fun i hi => by
      have h1 := hel' i hi
      rw [List.getElem?_eq_getElem (by omega : i < elems.length)] at h1
      obtain ⟨cs, hcs, h2⟩ := Option.bind_eq_some_iff.1 h1
      obtain ⟨x, hx, hq⟩ := hel _ _ _ h2
      exact ⟨x, cs, _, hcs, List.getElem?_eq_getElem (by omega), hx, hq⟩
    subst hl
    have ha : 0 < l.length → a = ⟨a.block, a.off, none⟩ := fun h0 => by
      obtain ⟨cs, y, h1, _, _, _⟩ := hp 0 h0
      obtain ⟨h2, h3⟩ := cells_get h1
      have h4 := h3 0 hs
      rw [Nat.zero_mul, add_zero, add_zero, List.getElem?_eq_getElem (by omega)] at h4
      have h5 := spot_none h4
      cases a
      simp only at h5
      subst h5
      rfl
    have hcell : ∀ i j, i < l.length → j < sz → ∃ v, w.cell? ⟨a.block, a.off + i * sz + j, none⟩ = some v ∧ PV w (stW w) ((enc (l.getD i d)).getD j .any) v := fun i j hi hj => by
      obtain ⟨cs, y, h1, _, h2, _⟩ := hp i hi
      obtain ⟨h3, h4⟩ := cells_get h1
      have h5 := h4 j hj
      have e := ha (by omega)
      generalize a.block = b at *
      generalize a.off = o at *
      subst e
      rw [add_add, List.getElem?_eq_getElem (by omega)] at h5
      have hlt : j < (enc (l.getD i d)).length := by rw [h2.length]; omega
      obtain ⟨v, hv, hpv⟩ := h2.get (List.getElem?_eq_getElem hlt)
      rw [List.getElem?_eq_getElem (by omega)] at hv
      cases hv
      refine ⟨_, h5, ?_⟩
      rw [List.getD_eq_getElem?_getD, List.getElem?_eq_getElem hlt]
      exact hpv
    have hcell' : ∀ i j, i < l.length → j < sz → w.cell? ⟨a.block, a.off + i * sz + j, none⟩ = some ((w.cell? ⟨a.block, a.off + i * sz + j, none⟩).getD default) := fun i j hi hj => by
      obtain ⟨v, h1, _⟩ := hcell i j hi hj
      rw [h1]
      rfl
    refine ⟨l, _, rfl, PV.sl false sz l.length cap _ (some a) a.block a.off (fun i j => (w.cell? ⟨a.block, a.off + i * sz + j, none⟩).getD default) (by omega) (fun h => by cases h) hcm (fun h0 => by rw [← ha (by omega)]) (fun i hi => ?_)
      (fun i j hi hj => hcell' i j (by omega) hj) (fun i j hi hj => cell_lt (hcell' i j (by omega) hj)) (fun i j hi hj => ?_), .inr ⟨_, _, rfl, by rw [List.length_map]; omega, fun i hi => ?_⟩⟩
    · obtain ⟨cs, y, h1, _, h2, _⟩ := hp i (by omega)
      rw [h2.length]
      exact (cells_get h1).1
    · obtain ⟨v, h1, h2⟩ := hcell i j (by omega) hj
      rw [h1]
      exact h2
    · obtain ⟨cs, y, _, h1, _, h2⟩ := hp i (by omega)
      exact ⟨y.1, by rw [List.getElem?_map, h1]; rfl, h2⟩
theorem str_bytes (s : ByteArray) : (⟨s.data.toList.toArray⟩ : ByteArray) = s := by cases s; simp
theorem el_int {t : Nat} {k : IntKind} (ht : Tryz.prog.underlying t = some (.int k)) (n : Nat) (cs : List Value) (y : DataW H × List MemPlace) (h : DataW.trod en Tryz.prog w base sp held n t cs = some y) :
    ∃ a : Int, All2 (PV w (stW w)) [.int k a] cs ∧ y.1 = .lit (.int k a) := by
  obtain ⟨z, rfl, rfl, _⟩ := DataW.trod_int ht h
  exact ⟨z, .cons (.int k z) .nil, rfl⟩
theorem el_str {t : Nat} (ht : Tryz.prog.underlying t = some .string) (n : Nat) (cs : List Value) (y : DataW H × List MemPlace) (h : DataW.trod en Tryz.prog w base sp held n t cs = some y) :
    ∃ a : Str, All2 (PV w (stW w)) [.str a] cs ∧ y.1 = .lit (.string a) := by
  obtain ⟨s, rfl, rfl, _⟩ := DataW.trod_string ht h
  have := PV.str (w := w) (st := stW w) s.data.toList
  rw [str_bytes] at this
  exact ⟨s.data.toList, .cons this .nil, rfl⟩
theorem fld {t : Nat} {fs : Array Field} {n : Nat} {cs : List Value} {x : DataW H × List MemPlace} (ht : Tryz.prog.underlying t = some (.struct fs)) (h : DataW.trod en Tryz.prog w base sp held n t cs = some x) :
    cs.length = Tryz.prog.cellsOf t ∧ ∃ m, ∀ (i : Nat) f, fs[i]? = some f → ∃ y, DataW.trod en Tryz.prog w base sp held m f.type ((cs.drop f.offset).take (Tryz.prog.cellsOf f.type)) = some y := by
  obtain ⟨xs, m, _, _, hl, hx, hf⟩ := DataW.trod_struct ht h
  refine ⟨hl, m, fun i f hi => ?_⟩
  have hlt : i < xs.length := by rw [hx]; exact (Array.getElem?_eq_some_iff.1 hi).1
  exact ⟨xs[i], by rw [hf i f hi, List.getElem?_eq_getElem hlt]⟩
theorem one_at {cs : List Value} {o : Nat} {v : Value} (h : (cs.drop o).take 1 = [v]) : cs[o]? = some v := by
  have := congrArg (fun l => l[0]?) h
  simpa [List.getElem?_take, List.getElem?_drop] using this
theorem one_at' {t : Nat} {cs : List Value} {o : Nat} {v : Value} (hc : Tryz.prog.cellsOf t = 1) (h : (cs.drop o).take (Tryz.prog.cellsOf t) = [v]) : cs[o]? = some v := by
  rw [hc] at h
  exact one_at h
theorem leaf_int {t : Nat} {k : IntKind} (ht : Tryz.prog.underlying t = some (.int k)) (hc : Tryz.prog.cellsOf t = 1) {m o : Nat} {cs : List Value} (h : ∃ y, DataW.trod en Tryz.prog w base sp held m t ((cs.drop o).take (Tryz.prog.cellsOf t)) = some y) : ∃ z, cs[o]? = some (.int k z) := by
  obtain ⟨y, h⟩ := h
  rw [hc] at h
  obtain ⟨z, hz, _, _⟩ := DataW.trod_int ht h
  exact ⟨z, one_at hz⟩
theorem leaf_str {t : Nat} (ht : Tryz.prog.underlying t = some .string) (hc : Tryz.prog.cellsOf t = 1) {m o : Nat} {cs : List Value} (h : ∃ y, DataW.trod en Tryz.prog w base sp held m t ((cs.drop o).take (Tryz.prog.cellsOf t)) = some y) : ∃ s : Str, cs[o]? = some (.string ⟨s.toArray⟩) := by
  obtain ⟨y, h⟩ := h
  rw [hc] at h
  obtain ⟨s, hz, _, _⟩ := DataW.trod_string ht h
  exact ⟨s.data.toList, by rw [str_bytes]; exact one_at hz⟩
theorem c3 : Tryz.prog.cellsOf 3 = 1 := by kernel_rfl
theorem c9 : Tryz.prog.cellsOf 9 = 1 := by kernel_rfl
theorem c42 : Tryz.prog.cellsOf 42 = 3 := by kernel_rfl
theorem c44 : Tryz.prog.cellsOf 44 = 2 := by kernel_rfl
theorem c46 : Tryz.prog.cellsOf 46 = 10 := by kernel_rfl
theorem c48 : Tryz.prog.cellsOf 48 = 2 := by kernel_rfl
theorem c58 : Tryz.prog.cellsOf 58 = 4 := by kernel_rfl
theorem c26 : Tryz.prog.cellsOf 26 = 3 := by kernel_rfl
theorem c38 : Tryz.prog.cellsOf 38 = 1 := by kernel_rfl
theorem c22 : Tryz.prog.cellsOf 22 = 1 := by kernel_rfl
theorem c23 : Tryz.prog.cellsOf 23 = 1 := by kernel_rfl
theorem c24 : Tryz.prog.cellsOf 24 = 1 := by kernel_rfl
theorem c54 : Tryz.prog.cellsOf 54 = 1 := by kernel_rfl
theorem inner {cs : List Value} {o k i : Nat} {v : Value} (h : ((cs.drop o).take k)[i]? = some v) : cs[o + i]? = some v := by
  rw [List.getElem?_take] at h
  split at h
  · rwa [List.getElem?_drop] at h
  · cases h
theorem el_mon (n : Nat) (cs : List Value) (y : DataW H × List MemPlace) (h : DataW.trod en Tryz.prog w base sp held n 58 cs = some y) : ∃ a : Mon, All2 (PV w (stW w)) (cMon a) cs ∧ True := by
  obtain ⟨hl, m, hf⟩ := fld Tryz.underlying58 h
  rw [c58] at hl
  obtain ⟨z0, h0⟩ := leaf_int Tryz.underlying3 c3 (hf 0 _ rfl)
  obtain ⟨z1, h1⟩ := leaf_int Tryz.underlying3 c3 (hf 1 _ rfl)
  obtain ⟨z2, h2⟩ := leaf_int Tryz.underlying3 c3 (hf 2 _ rfl)
  obtain ⟨z3, h3⟩ := leaf_int Tryz.underlying3 c3 (hf 3 _ rfl)
  match cs, hl with
  | [a, b, c, d], _ =>
    cases h0; cases h1; cases h2; cases h3
    exact ⟨⟨z0, z1, z2, z3⟩, .cons (.int _ _) (.cons (.int _ _) (.cons (.int _ _) (.cons (.int _ _) .nil))), trivial⟩
theorem el_opd (n : Nat) (cs : List Value) (y : DataW H × List MemPlace) (h : DataW.trod en Tryz.prog w base sp held n 46 cs = some y) : ∃ a : Opd, All2 (PV w (stW w)) (cOpd a) cs ∧ True := by
  obtain ⟨hl, m, hf⟩ := fld Tryz.underlying46 h
  rw [c46] at hl
  obtain ⟨z0, h0⟩ := leaf_str Tryz.underlying9 c9 (hf 0 _ rfl)
  obtain ⟨z1, h1⟩ := leaf_int Tryz.underlying3 c3 (hf 1 _ rfl)
  obtain ⟨y2, k2⟩ := hf 2 _ rfl
  obtain ⟨_, m2, g2⟩ := fld Tryz.underlying42 k2
  obtain ⟨z2, h2⟩ := leaf_int Tryz.underlying3 c3 (g2 0 _ rfl)
  obtain ⟨z3, h3⟩ := leaf_int Tryz.underlying3 c3 (g2 1 _ rfl)
  obtain ⟨z4, h4⟩ := leaf_int Tryz.underlying3 c3 (g2 2 _ rfl)
  obtain ⟨y5, k5⟩ := hf 3 _ rfl
  obtain ⟨_, m5, g5⟩ := fld Tryz.underlying44 k5
  obtain ⟨z5, h5⟩ := leaf_int Tryz.underlying3 c3 (g5 0 _ rfl)
  obtain ⟨z6, h6⟩ := leaf_str Tryz.underlying9 c9 (g5 1 _ rfl)
  obtain ⟨z7, h7⟩ := leaf_str Tryz.underlying9 c9 (hf 4 _ rfl)
  obtain ⟨z8, h8⟩ := leaf_int Tryz.underlying3 c3 (hf 5 _ rfl)
  obtain ⟨z9, h9⟩ := leaf_int Tryz.underlying3 c3 (hf 6 _ rfl)
  replace h2 := inner h2
  replace h3 := inner h3
  replace h4 := inner h4
  replace h5 := inner h5
  replace h6 := inner h6
  match cs, hl with
  | [a0, a1, a2, a3, a4, a5, a6, a7, a8, a9], _ =>
    cases h0; cases h1; cases h2; cases h3; cases h4; cases h5; cases h6; cases h7; cases h8; cases h9
    exact ⟨⟨z0, z1, ⟨z2, z3, z4⟩, z5, z6, z7, z8, z9⟩, .cons (.str _) (.cons (.int _ _) (.cons (.int _ _) (.cons (.int _ _) (.cons (.int _ _) (.cons (.int _ _) (.cons (.str _) (.cons (.str _) (.cons (.int _ _) (.cons (.int _ _) .nil))))))))), trivial⟩
theorem el_ins (n : Nat) (cs : List Value) (y : DataW H × List MemPlace) (h : DataW.trod en Tryz.prog w base sp held n 48 cs = some y) : ∃ a : Ins, All2 (PV w (stW w)) (cIns a) cs ∧ True := by
  obtain ⟨hl, m, hf⟩ := fld Tryz.underlying48 h
  rw [c48] at hl
  obtain ⟨z0, h0⟩ := leaf_int Tryz.underlying3 c3 (hf 0 _ rfl)
  obtain ⟨y1, k1⟩ := hf 1 _ rfl
  obtain ⟨l, v, hv, hp, _⟩ := sl_of (enc := cInt) (d := (0 : Int)) (Q := fun a y => y = .lit (.int .i64 a)) Tryz.underlying38 c3 (by omega) (el_int Tryz.underlying3) k1
  have h1 := one_at' c38 hv
  match cs, hl with
  | [a, b], _ =>
    cases h0; cases h1
    exact ⟨⟨z0, l⟩, .cons (.int _ _) (.cons hp .nil), trivial⟩
theorem prg_read {v : Value} {d : DataW H} {ps : List MemPlace} {b0 : Nat} {r : Reach} (hval : Value.okWide Tryz.prog w r b0 26 v) (h : DataW.Trod en Tryz.prog w base sp held 26 v d ps) : ∃ p : Prg, R2 w (stW w) noρ (aPrg p) v := by
  unfold Value.okWide at hval
  rw [Tryz.underlying26] at hval
  obtain ⟨cs, rfl, hsz, _⟩ := hval
  obtain ⟨fuel, hf⟩ := h
  obtain ⟨hl, m, hf⟩ := fld Tryz.underlying26 hf
  rw [c26] at hl
  obtain ⟨y0, k0⟩ := hf 0 _ rfl
  obtain ⟨y1, k1⟩ := hf 1 _ rfl
  obtain ⟨y2, k2⟩ := hf 2 _ rfl
  obtain ⟨l0, v0, e0, p0, _⟩ := sl_of (enc := cOpd) (d := opd0) (Q := fun _ _ => True) Tryz.underlying22 c46 (by omega) el_opd k0
  obtain ⟨l1, v1, e1, p1, _⟩ := sl_of (enc := cIns) (d := ins0) (Q := fun _ _ => True) Tryz.underlying23 c48 (by omega) el_ins k1
  obtain ⟨l2, v2, e2, p2, _⟩ := sl_of (enc := cMon) (d := mon0) (Q := fun _ _ => True) Tryz.underlying24 c58 (by omega) el_mon k2
  have g0 := one_at' c22 e0
  have g1 := one_at' c23 e1
  have g2 := one_at' c24 e2
  obtain ⟨cs⟩ := cs
  replace hl : cs.length = 3 := hl
  replace g0 : cs[0]? = some v0 := g0
  replace g1 : cs[1]? = some v1 := g1
  replace g2 : cs[2]? = some v2 := g2
  match cs, hl with
  | [a, b, c], _ =>
    cases g0; cases g1; cases g2
    refine ⟨⟨l0, l1, l2⟩, [v0, v1, v2], rfl, .cons p0 (.cons p1 (.cons p2 .nil)), fun x hx => ?_⟩
    simp only [List.mem_cons, List.not_mem_nil, or_false] at hx
    rcases hx with rfl | rfl | rfl
    · exact p0.one
    · exact p1.one
    · exact p2.one
end
end Go.Proofs.YtgcnbicoajjlaaaGreatDoor
end
section
set_option linter.unusedVariables false
set_option linter.unusedSimpArgs false
set_option maxRecDepth 100000
namespace Go.Proofs.YtgcnbicoajjlaaaGreatDoor
open Go Go.Eng Go.Tx Go.Lib
section
variable {w : World}
theorem glob_arr {g n : Nat} {f : Nat → List AV} {cs : Array Value} (hcell : ∀ i, w.cell? ⟨g, i, none⟩ = cs[i]?) (hsz : cs.size = n) (h0 : 0 < n) (h : ∀ i, i < n → ∃ v a, cs[i]? = some v ∧ f i = [a] ∧ PV w (stW w) a v) : PV w (stW w) (.rda 1 n f) (.pointer (some ⟨g, 0, none⟩)) := by
  have hg : g < w.heap.size := by
    obtain ⟨v, a, h1, _, _⟩ := h 0 h0
    exact cell_lt (o := 0) (by rw [hcell, h1])
  have hc : ∀ i j, i < n → j < 1 → w.cell? ⟨g, 0 + i * 1 + j, none⟩ = some ((cs[i]?).getD default) := fun i j hi hj => by
    obtain ⟨v, a, h1, _, _⟩ := h i hi
    rw [show 0 + i * 1 + j = i by omega, hcell, h1]
    rfl
  refine PV.rda 1 n f g 0 (fun i j => (cs[i]?).getD default) (fun i hi => ?_) hc (fun _ _ _ _ => hg) (fun i j hi hj => ?_) ?_ hg
  · obtain ⟨v, a, _, h2, _⟩ := h i hi
    rw [h2]
    rfl
  · obtain ⟨v, a, h1, h2, h3⟩ := h i hi
    obtain rfl : j = 0 := by omega
    rw [h1, h2]
    exact h3
  · rw [hcell]
    exact Array.getElem?_eq_none (by omega)
theorem arr_of {en : TypeId × Value → Unit} {base : Nat} {sp : Nat → Bool} {held : Bool} {t e n fuel : Nat} {cs : List Value} {D : List (DataW Unit)} {p : List MemPlace} (ht : Tryz.prog.underlying t = some (.array n e)) (hc : Tryz.prog.cellsOf e = 1) (hct : Tryz.prog.cellsOf t = n)
    (h : DataW.trod en Tryz.prog w base sp held fuel t cs = some (.agg D, p)) : cs.length = n ∧ ∀ i, i < n → ∃ v y m, cs[i]? = some v ∧ D[i]? = some y.1 ∧ DataW.trod en Tryz.prog w base sp held m e [v] = some y := by
  obtain ⟨xs, m, _, hx, hl, hn, hf⟩ := DataW.trod_array ht h
  rw [hct] at hl
  refine ⟨hl, fun i hi => ?_⟩
  have h1 := hf i hi
  rw [hc, Nat.mul_one, List.getElem?_eq_getElem (by omega : i < xs.length)] at h1
  have h2 : (cs.drop i).take 1 = [cs[i]'(by omega)] := by
    rw [List.drop_eq_getElem_cons (by omega), List.take_succ_cons, List.take_zero]
  rw [h2] at h1
  refine ⟨_, _, m, List.getElem?_eq_getElem (by omega), ?_, h1⟩
  have : D = xs.map (·.1) := by
    have := congrArg Prod.fst hx
    simpa using this
  rw [this, List.getElem?_map, List.getElem?_eq_getElem (by omega)]
  rfl
theorem all2_one {R : AV → Value → Prop} {a : AV} {v : Value} (h : All2 R [a] [v]) : R a v := by
  cases h with
  | cons h _ => exact h
def litI {H : Type} (n : Int) : DataW H := .lit (.int .i64 n)
def litS {H : Type} (s : Str) : DataW H := .lit (.string s)
theorem litI_inj {H : Type} : ∀ {l m : List Int}, l.map (litI (H := H)) = m.map litI → l = m
  | [], [], _ => rfl
  | [], _ :: _, h => by cases h
  | _ :: _, [], h => by cases h
  | a :: l, b :: m, h => by
    simp only [List.map_cons, List.cons.injEq, litI, DataW.lit.injEq, Lit.int.injEq] at h
    rw [h.1.2, litI_inj (H := H) h.2]
theorem litS_inj {H : Type} : ∀ {l m : List Str}, l.map (litS (H := H)) = m.map litS → l = m
  | [], [], _ => rfl
  | [], _ :: _, h => by cases h
  | _ :: _, [], h => by cases h
  | a :: l, b :: m, h => by
    simp only [List.map_cons, List.cons.injEq, litS, DataW.lit.injEq, Lit.string.injEq] at h
    rw [h.1, litS_inj (H := H) h.2]
theorem els_map {α β : Type} {f : α → β} {d : α} {l : List α} {els : List β} (hl : els.length = l.length) (h : ∀ i, i < l.length → ∃ y, els[i]? = some y ∧ y = f (l.getD i d)) : els = l.map f := by
  refine List.ext_getElem? fun i => ?_
  by_cases hi : i < l.length
  · obtain ⟨y, h1, rfl⟩ := h i hi
    rw [h1, List.getElem?_map, List.getElem?_eq_getElem hi, List.getD_eq_getElem?_getD, List.getElem?_eq_getElem hi]
    rfl
  · rw [List.getElem?_eq_none (by omega), List.getElem?_eq_none (by rw [List.length_map]; omega)]
theorem c189 : Tryz.prog.cellsOf 189 = 20 := by kernel_rfl
theorem c169 : Tryz.prog.cellsOf 169 = 1 := by kernel_rfl
theorem c82 : Tryz.prog.cellsOf 82 = 19 := by kernel_rfl
theorem c104 : Tryz.prog.cellsOf 104 = 19 := by kernel_rfl
theorem gn0 : Tryz.prog.globalNamed "midrange/program.names" = some 0 := by kernel_rfl
theorem gn1 : Tryz.prog.globalNamed "midrange/program.operations" = some 1 := by kernel_rfl
theorem gn2 : Tryz.prog.globalNamed "midrange/program.types" = some 2 := by kernel_rfl
theorem gn4 : Tryz.prog.globalNamed "internal/strconv.uint64pow10" = some 4 := by kernel_rfl
theorem gn5 : Tryz.prog.globalNamed "strconv.ErrSyntax" = some 5 := by kernel_rfl
theorem gn6 : Tryz.prog.globalNamed "strconv.ErrRange" = some 6 := by kernel_rfl
theorem gt0 : (Tryz.prog.globals[0]?).map (·.type) = some 82 := by kernel_rfl
theorem gt1 : (Tryz.prog.globals[1]?).map (·.type) = some 104 := by kernel_rfl
theorem gt2 : (Tryz.prog.globals[2]?).map (·.type) = some 54 := by kernel_rfl
theorem gt4 : (Tryz.prog.globals[4]?).map (·.type) = some 189 := by kernel_rfl
theorem gt5 : (Tryz.prog.globals[5]?).map (·.type) = some 89 := by kernel_rfl
theorem gt6 : (Tryz.prog.globals[6]?).map (·.type) = some 89 := by kernel_rfl
theorem dat0 : (Rows.laid_midrange_program_names : DataW Unit) = .agg (opNames.map litS) := by kernel_rfl
theorem dat1 : (Rows.laid_midrange_program_operations : DataW Unit) = .agg ((List.range 19).map fun (i : Nat) => DataW.slice ((roles (i : Int)).map litI) []) := by kernel_rfl
theorem dat2 : (Rows.laid_midrange_program_types : DataW Unit) = .slice (kindWords.map litS) [] := by kernel_rfl
theorem dat4 : (Rows.laid_internal_strconv_uint64pow10 : DataW Unit) = .agg (pow10s.map fun n => .lit (.int .u64 n)) := by kernel_rfl
theorem reads_at {name : String} {g t : Nat} {d : DataW Unit} (h : VarReads Tryz.prog w name d) (hg : Tryz.prog.globalNamed name = some g) (ht : (Tryz.prog.globals[g]?).map (·.type) = some t) :
    ∃ (cs : Array Value) (fuel : Nat) (p : List MemPlace), (∀ i : Nat, w.cell? ⟨g, i, none⟩ = cs[i]?) ∧ DataW.trod (fun _ => ()) Tryz.prog w 0 (fun _ => true) false fuel t cs.toList = some (d, p) := by
  obtain ⟨g', t', cs, fuel, p, h1, h2, h3, h4⟩ := h
  obtain rfl := Option.some.inj (hg.symm.trans h1)
  obtain rfl := Option.some.inj (ht.symm.trans h2)
  exact ⟨cs, fuel, p, fun i => World.var?_cell h1 h3 i, h4⟩
theorem rd_one {g : Nat} {a : AV} {v : Value} (h : w.cell? ⟨g, 0, none⟩ = some v) (hp : PV w (stW w) a v) : PV w (stW w) (.rd [a]) (.pointer (some ⟨g, 0, none⟩)) := by
  refine PV.rd [a] g 0 (fun _ => v) (fun j hj => ?_) (fun j hj => cell_lt h) (fun j hj => ?_)
  · obtain rfl : j = 0 := by simp at hj; omega
    exact h
  · obtain rfl : j = 0 := by simp at hj; omega
    exact hp
theorem iface_of {en : TypeId × Value → Unit} {base : Nat} {sp : Nat → Bool} {t fuel : Nat} {ms : Array (String × Nat)} {cs : List Value} {nm : String} {d : DataW Unit} {p : List MemPlace} (ht : Tryz.prog.underlying t = some (.interface ms))
    (h : DataW.trod en Tryz.prog w base sp false fuel t cs = some (.iface nm d, p)) : ∃ u x, cs = [.iface u x] := by
  cases fuel with
  | zero => simp [DataW.trod] at h
  | succ n =>
    unfold DataW.trod at h
    rw [ht] at h
    split at h <;> simp_all
theorem err_glob {g : Nat} {nm : String} {d : DataW Unit} {name : String} (hg : Tryz.prog.globalNamed name = some g) (ht : (Tryz.prog.globals[g]?).map (·.type) = some 89) (h : VarReads Tryz.prog w name (.iface nm d)) : PV w (stW w) (.rd [.ifS]) (.pointer (some ⟨g, 0, none⟩)) := by
  obtain ⟨cs, fuel, p, hc, ht⟩ := reads_at h hg ht
  obtain ⟨u, x, e⟩ := iface_of Tryz.underlying89 ht
  have h0 : cs[0]? = some (.iface u x) := by rw [← Array.getElem?_toList, e]; rfl
  exact rd_one (by rw [hc, h0]) (.ifS u x)
theorem maxLen_int (hsh : w.ShapedOpen Tryz.prog) : ∃ m, w.cell? ⟨3, 0, none⟩ = some (.int .i64 m) :=
  cell_of_shapedOpen_int (t := 3) (zero := #[.int .i64 0]) hsh (of_decide_eq_true (by kernel_rfl)) (by kernel_rfl) rfl (by kernel_rfl) (by kernel_rfl) Tryz.underlying3
theorem glob_ok (hL : laidMet Tryz.prog Rows.topTextsRefusedRow.laid w) (hsh : w.ShapedOpen Tryz.prog) : ∃ m, GlobOk (GG m) w (stW w) := by
  obtain ⟨m, hm⟩ := maxLen_int hsh
  refine ⟨m, fun g => ?_⟩
  match g with
  | 0 =>
    refine .inr ?_
    have h := laidMet.reads hL (n := "midrange/program.names") (d := Rows.laid_midrange_program_names) (by simp [Rows.topTextsRefusedRow])
    rw [dat0] at h
    obtain ⟨cs, fuel, p, hc, ht⟩ := reads_at h gn0 gt0
    obtain ⟨hl, hx⟩ := arr_of Tryz.underlying82 c9 c82 ht
    refine glob_arr (cs := cs) hc (by simpa using hl) (by omega) fun i hi => ?_
    obtain ⟨v, y, k, h1, h2, h3⟩ := hx i hi
    obtain ⟨a, h4, h5⟩ := el_str Tryz.underlying9 _ _ _ h3
    refine ⟨v, _, by rw [← Array.getElem?_toList, h1], rfl, ?_⟩
    have e : a = opNames.getD i [] := by
      rw [h5, List.getElem?_map] at h2
      rw [List.getD_eq_getElem?_getD]
      cases ho : opNames[i]? with
      | none => rw [ho] at h2; cases h2
      | some s => rw [ho] at h2; simp [litS] at h2; exact h2.symm
    rw [← e]
    exact all2_one h4
  | 1 =>
    refine .inr ?_
    have h := laidMet.reads hL (n := "midrange/program.operations") (d := Rows.laid_midrange_program_operations) (by simp [Rows.topTextsRefusedRow])
    rw [dat1] at h
    obtain ⟨cs, fuel, p, hc, ht⟩ := reads_at h gn1 gt1
    obtain ⟨hl, hx⟩ := arr_of Tryz.underlying104 c38 c104 ht
    refine glob_arr (cs := cs) hc (by simpa using hl) (by omega) fun i hi => ?_
    obtain ⟨v, y, k, h1, h2, h3⟩ := hx i hi
    obtain ⟨l, v', hv, hp, hd⟩ := sl_of (enc := cInt) (d := (0 : Int)) (Q := fun a y => y = .lit (.int .i64 a)) Tryz.underlying38 c3 (by omega) (el_int Tryz.underlying3) h3
    obtain rfl : v = v' := by simpa using hv
    refine ⟨v, _, by rw [← Array.getElem?_toList, h1], rfl, ?_⟩
    have e : l = roles (i : Int) := by
      rw [List.getElem?_map, List.getElem?_range hi] at h2
      have h2 : y.1 = .slice ((roles (i : Int)).map litI) [] := (Option.some.inj h2).symm
      rcases hd with ⟨hn, _⟩ | ⟨els, rest, hs, hle, hq⟩
      · rw [h2] at hn; cases hn
      · rw [h2] at hs
        injection hs with hs1 hs2
        have := els_map (f := litI) hle hq
        exact litI_inj (this.symm.trans hs1.symm)
    rw [← e]
    exact hp
  | 2 =>
    refine .inr ?_
    have h := laidMet.reads hL (n := "midrange/program.types") (d := Rows.laid_midrange_program_types) (by simp [Rows.topTextsRefusedRow])
    rw [dat2] at h
    obtain ⟨cs, fuel, p, hc, ht⟩ := reads_at h gn2 gt2
    obtain ⟨l, v', hv, hp, hd⟩ := sl_of (enc := cStr) (d := ([] : Str)) (Q := fun a y => y = .lit (.string a)) Tryz.underlying54 c9 (by omega) (el_str Tryz.underlying9) ht
    have h0 : cs[0]? = some v' := by rw [← Array.getElem?_toList, hv]; rfl
    have e : l = kindWords := by
      rcases hd with ⟨hn, _⟩ | ⟨els, rest, hs, hle, hq⟩
      · cases hn
      · injection hs with hs1 hs2
        have := els_map (f := litS) hle hq
        exact litS_inj (this.symm.trans hs1.symm)
    rw [e] at hp
    exact rd_one (by rw [hc, h0]) hp
  | 3 => exact .inr (rd_one hm (.int _ _))
  | 4 =>
    refine .inr ?_
    have h := laidMet.reads hL (n := "internal/strconv.uint64pow10") (d := Rows.laid_internal_strconv_uint64pow10) (by simp [Rows.topTextsRefusedRow])
    rw [dat4] at h
    obtain ⟨cs, fuel, p, hc, ht⟩ := reads_at h gn4 gt4
    obtain ⟨hl, hx⟩ := arr_of Tryz.underlying189 c169 c189 ht
    refine glob_arr (cs := cs) hc (by simpa using hl) (by omega) fun i hi => ?_
    obtain ⟨v, y, k, h1, h2, h3⟩ := hx i hi
    obtain ⟨a, h4, h5⟩ := el_int Tryz.underlying169 _ _ _ h3
    refine ⟨v, _, by rw [← Array.getElem?_toList, h1], rfl, ?_⟩
    have e : a = pow10s.getD i 0 := by
      rw [h5, List.getElem?_map] at h2
      rw [List.getD_eq_getElem?_getD]
      cases ho : pow10s[i]? with
      | none => rw [ho] at h2; cases h2
      | some s => rw [ho] at h2; simp at h2; exact h2.symm
    rw [← e]
    exact all2_one h4
  | 5 => exact .inr (err_glob gn5 gt5 (laidMet.reads hL (n := "strconv.ErrSyntax") (d := Rows.laid_strconv_ErrSyntax) (by simp [Rows.topTextsRefusedRow])))
  | 6 => exact .inr (err_glob gn6 gt6 (laidMet.reads hL (n := "strconv.ErrRange") (d := Rows.laid_strconv_ErrRange) (by simp [Rows.topTextsRefusedRow])))
  | g + 7 => exact .inl rfl
end
end Go.Proofs.YtgcnbicoajjlaaaGreatDoor
end
section
set_option linter.unusedVariables false
set_option linter.unusedSimpArgs false
set_option maxRecDepth 100000
namespace Go.Proofs.YtgcnbicoajjlaaaGreatDoor
open Go Go.Eng Go.Tx Go.Lib Go.ChangeShapes Go.WideShapes Go.RowKit
section
variable {H : Type} {en : TypeId × Value → H}
theorem law_calls {W : World} (hL : laidMet Tryz.prog Rows.topTextsRefusedRow.laid W) (hsh : W.ShapedOpen Tryz.prog) {v : Value} {d : DataW H} {ps : List MemPlace} {b0 base : Nat} {r : Reach} {sp : Nat → Bool} {held : Bool} (hval : Value.okWide Tryz.prog W r b0 26 v)
    (h : DataW.Trod en Tryz.prog W base sp held 26 v d ps) (line way : Int) : Calls Tryz.prog 3 #[v, .int .i64 line, .int .i64 way] W fun e W' => e = .returned (.bool true) ∧ Below W.heap.size W W' := by
  obtain ⟨m, hg⟩ := glob_ok hL hsh
  obtain ⟨p, hp⟩ := prg_read hval h
  have i1 : R2 W (stW W) noρ (I line) (.int .i64 line) := (PV.int .i64 line : PV W (stW W) (.int .i64 line) (.int .i64 line))
  have i2 : R2 W (stW W) noρ (I way) (.int .i64 way) := (PV.int .i64 way : PV W (stW W) (.int .i64 way) (.int .i64 way))
  have hc := ok3 (m := m) [aPrg p, I line, I way] (.prop true) (run_need_mk ⟨p, self_prg p⟩ _) rfl W (stW W) [v, .int .i64 line, .int .i64 way] (sta_W W) hg (.cons hp (.cons i1 (.cons i2 .nil)))
  rcases hc with ⟨_, hc⟩ | ⟨v', w', hrun, _⟩
  · refine hc.mono fun e W' ⟨v', he, st', hev, _, _, _, hr⟩ => ?_
    have h1 : PV W' st' (.prop true) v' := hr rfl
    cases h1
    exact ⟨he, ⟨hev.os, hev.tape, hev.output, hev.size, fun k hk => hev.block k hk fun h => h⟩⟩
  · rw [enters_lib Tryz.func3 (by kernel_rfl)] at hrun
    cases hrun
end
theorem handed_laid_shaped {H : Type} {enc : TypeId × Value → H} {a : Assume} {C : Checked} {os : Os} {f : FuncId} {fn : Func} {s : ChangeSpec} {conds : List PathCond} {apart fresh handsOn again : Bool} {X : World → Array Value → Prop}
    (hX : ∀ (w w' : World) (args : Array Value), w.heap = w'.heap → X w args → X w' args)
    (own : ownKnob C.prog.godebug = none) (started : os.Started) (noInit : C.prog.inits.idxOf? f = none) (hfn : C.prog.funcs[f]? = some fn)
    (witness : ∃ (w : World) (tape : Tape) (i : Input), w.os = os ∧ (w.forCall tape i).Shaped C.prog ∧ i.vars = [] ∧ Input.okWide C.prog (w.forCall tape i) .any w.heap.size f i ∧
      ((s.pre enc C.prog fn conds apart (w.forCall tape i).memory i.args ∧ X (w.forCall tape i).memory i.args) ∧ sizedMet enc C.prog fn (OpenSpec.ofChange s) apart (w.forCall tape i).memory i.args) ∧ a.holds C.prog (lone (Frame.enter C.prog f i.args .normal) [] (w.forCall tape i)))
    (contract : ∀ (W : World) (base : Nat) (args : Array Value) (ds gs : List (DataW H)) (before : List MemPlace),
      (∀ (j : Nat) t v, fn.params[j]? = some t → args[j]? = some v → Value.okWide C.prog W .any base t v) →
      DataW.Whole enc C.prog fn.params.toList s.vars apart W args.toList ds gs before → X W args → W.ShapedOpen C.prog →
      Calls C.prog f args W fun e W' => ∃ v, e = .returned v ∧ s.post enc C.prog fn apart fresh handsOn again W args v W') :
    ReturnsInHanded a C os f .any (fun w args => (s.pre enc C.prog fn conds apart w args ∧ X w args) ∧ sizedMet enc C.prog fn (OpenSpec.ofChange s) apart w args) (s.post enc C.prog fn apart fresh handsOn again) := by
  refine returnsInHanded_of_calls own started noInit witness ?_
  intro w tape i _ hsh _ hok hpre _
  obtain ⟨_, _, _, fn', hfn', _, _, _, _, hval⟩ := hok
  have e : fn' = fn := Option.some.inj (hfn'.symm.trans hfn)
  subst e
  obtain ⟨⟨⟨ds, gs, before, hw, _⟩, hx⟩, _⟩ := hpre
  have hw' := DataW.Whole.of_heap (w' := w.forCall tape i) (by rfl) hw
  refine (contract (w.forCall tape i) w.heap.size i.args ds gs before hval hw' (hX _ _ _ (by rfl) hx) hsh).mono fun e W' ⟨v, he, hp⟩ => ?_
  subst he
  exact ChangeSpec.post_blind hp
theorem ownNone : ownKnob Tryz.prog.godebug = none := by kernel_rfl
theorem laidOutTryz : laidOutB Tryz.prog = true := by kernel_rfl
theorem readable26 : Tryz.prog.readableRec 26 = true := by kernel_rfl
theorem row26 : 26 < Tryz.prog.types.size := of_decide_eq_true (by kernel_rfl)
theorem results3 : Tryz.f3.resultTypes.toList = [4] := by kernel_rfl
theorem results3s : Tryz.f3.resultTypes.size = 1 := by kernel_rfl
theorem plainLaid (w : World) : laidMetH Tryz.prog Rows.topTextsRefusedRow.laid w = laidMet Tryz.prog Rows.topTextsRefusedRow.laid w := MakeChecks.laidMetH_plain _ _ _ (by kernel_rfl)
noncomputable def arg0 : Array Value := #[.agg #[.slice none 0 0, .slice none 0 0, .slice none 0 0], .int .i64 0, .int .i64 0]
theorem lifted (os : Os) (started : os.Started) (H : Type) (enc : TypeId × Value → H) :
    ReturnsInHanded {} Tryz.checked os 3 .any (fun w args => (Rows.topTextsRefusedSpec.pre enc Tryz.prog Tryz.f3 [] false w args ∧ laidMetH Tryz.prog Rows.topTextsRefusedRow.laid w) ∧ sizedMet enc Tryz.prog Tryz.f3 (OpenSpec.ofChange Rows.topTextsRefusedSpec) false w args)
      (Rows.topTextsRefusedSpec.post enc Tryz.prog Tryz.f3 false true false false) := by
  refine handed_laid_shaped (C := Tryz.checked) (X := fun w _ => laidMetH Tryz.prog Rows.topTextsRefusedRow.laid w) (fun _ _ _ hh h => h.of_heap hh) ownNone started (by kernel_rfl) Tryz.func3
    (ChangeSpec.witness_shaped (enc := enc) (C := Tryz.checked) (os := os) (X := fun w _ => laidMetH Tryz.prog Rows.topTextsRefusedRow.laid w) false (World.laidAll Tryz.prog os Rows.topTextsRefusedRow.laid) arg0 8 (World.laidAll_os _ _ _)
      (World.shaped_of_ZipB (by kernel_rfl) (by kernel_rfl)) (by kernel_rfl) (by kernel_rfl) (by kernel_rfl)
      (by rw [plainLaid]; exact laidMet_laidAll _ (by kernel_rfl) (by kernel_rfl))) ?_
  intro W base args ds gs before hval0 hW hL hsh
  have hval : ∀ (j : Nat) t v, Tryz.f3.params[j]? = some t → args[j]? = some v → Value.okWide Tryz.prog W .any base t v := hval0
  have hW' := hW
  obtain ⟨p, q, hA0, hV, rfl, _, _⟩ := hW
  have hlt := hA0.lt
  have hA : DataW.TrodAll enc Tryz.prog W 0 (fun _ => true) true Tryz.f3.params.toList args.toList ds p := hA0
  rw [Tryz.params3] at hA hval
  obtain ⟨v1, v2, v3, d1, d2, d3, p1, p2, p3, rfl, rfl, rfl, h1, h2, h3⟩ := trodAll_three hA
  obtain ⟨rfl, rfl⟩ := trodVars_none hV
  obtain ⟨line, rfl, rfl, rfl, w2⟩ := open_int Tryz.underlying3 (hval 1 3 v2 rfl rfl) h2
  obtain ⟨way, rfl, rfl, rfl, w3⟩ := open_int Tryz.underlying3 (hval 2 3 v3 rfl rfl) h3
  rw [plainLaid] at hL
  refine (law_calls hL hsh (hval 0 26 v1 rfl rfl) h1 line way).mono fun e W' ⟨he, hb⟩ => ?_
  subst he
  refine ⟨_, rfl, _, _, _, [], p1 ++ ([] ++ []), [], hW', ?_, ?_, rfl, hb.frame _, fun h => by cases h⟩
  · exact trodAll_mk1 (shut_bool Tryz.underlying4 _)
  · exact trodAll_mk3 (Below.trod laidOutTryz readable26 row26 h1 hb (fun x hx => hlt x (by simp [hx]))) (shut_int Tryz.underlying3 w2) (shut_int Tryz.underlying3 w3)
theorem topTextsRefused_holds : Rows.TopTextsRefusedSaid :=
  OpenClaim.holds_of_wide 3 Tryz.f3 rfl rfl rfl rfl rfl rfl rfl ⟨rfl, rfl, rfl, rfl, rfl⟩ rfl rfl rfl rfl rfl (by kernel_rfl) Tryz.func3 (by kernel_rfl)
    (of_decide_eq_true (by kernel_rfl)) (by unfold Func.isWrapper; first | (rw [if_pos (by decide +kernel)]; kernel_rfl) | (rw [if_neg (by decide +kernel)]; exact ⟨rfl, rfl⟩))
    (fun os started H enc _ => lifted os started H enc)
end Go.Proofs.YtgcnbicoajjlaaaGreatDoor
end
section
set_option maxRecDepth 100000
namespace Go.Proofs.YtgcnbicoajjlaaaGreatDoor
open Go
theorem topTextsRefused_card_holds : Rows.TopTextsRefusedCardSaid :=
  Claim7.holds_tied_plain_at .later [] [.data, .data, .data, .data, .sentinel, .sentinel, .data, .widerDeep, .widerDeep, .pinned] true (true, "f410359e4579012227f49b7ec4e2bf189ec5cbd9a374f7787670073a02392029") true
    topTextsRefused_holds (fun _ h => by cases h) (by kernel_rfl) (fun _ h => by cases h) topTextsRefused_row_tie rfl ⟨rfl, rfl⟩ (by kernel_rfl) rfl
    (fun f fn hf hfn => by
      obtain rfl : f = 3 := Option.some.inj ((show Tryz.prog.funcNamed "midrange/midrangetop.TopTextsRefused" = some 3 by kernel_rfl).symm.trans hf) |>.symm
      obtain rfl : fn = Tryz.f3 := (Option.some.inj (Tryz.func3.symm.trans hfn)).symm
      exact ⟨by kernel_rfl, fun j t ht => by
        rw [Tryz.params3] at ht
        have hm : t ∈ [26, 3] := by
          have := Array.mem_of_getElem? ht
          simp only [List.mem_cons, List.not_mem_nil, or_false]
          simp at this
          omega
        have hall : ([26, 3].all fun u => !Tryz.prog.wantsStandIn u) = true := by kernel_rfl
        exact (show Tryz.prog.wantsStandIn t = false by simpa using List.all_eq_true.1 hall t hm)⟩)
    (by kernel_rfl)
#print axioms topTextsRefused_card_holds
end Go.Proofs.YtgcnbicoajjlaaaGreatDoor
end
