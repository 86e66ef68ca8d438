/-
What is proved: 'midrangetop.TopTextsRefused' returns true for every input, and its arguments read behind the call as they read before (the tied card of the statement 'TopTextsRefused').
  Its conditions: the row's own: the ten listed package-level variables start as the program's text lays them (the card ties them to that text); nothing else is asked.
  Part 6 of 15.
-/
import Derived.Lib.ItoaMem
import Derived.Lib.AtoiAll
import Derived.Lib.IndexMore
import Derived.Lib.Split
import Derived.Lib.Replace
import Derived.Lib.Join
import Derived.Lib.TrimByte
import Derived.Lib.Strings
import Derived.Lib.Bytealg
set_option linter.unusedSectionVars false
set_option linter.unusedVariables false
set_option linter.unusedSimpArgs false
section
namespace Go.Tx
open Go.Lib
abbrev Str := List UInt8
structure Ty where
  k : Int
  l : Int
  s : Int
structure Opd where
  name : Str
  kind : Int
  ty : Ty
  n : Int
  v : Str
  base : Str
  off : Int
  tgt : Int
structure Ins where
  op : Int
  args : List Int
structure Mon where
  fr : Int
  to : Int
  ex : Int
  hd : Int
structure Prg where
  ops : List Opd
  ins : List Ins
  mons : List Mon
def ty0 : Ty := ⟨0, 0, 0⟩
def opd0 : Opd := ⟨[], 0, ty0, 0, [], [], 0, 0⟩
def ins0 : Ins := ⟨0, []⟩
def mon0 : Mon := ⟨0, 0, 0, 0⟩
def prg0 : Prg := ⟨[], [], []⟩
def isUp (c : UInt8) : Bool := decide (65 ≤ c.toNat ∧ c.toNat ≤ 90)
def isDig (c : UInt8) : Bool := decide (48 ≤ c.toNat ∧ c.toNat ≤ 57)
def letter (c : UInt8) : Bool := isUp c || c == 35 || c == 36 || c == 64
def nameCh (c : UInt8) : Bool := letter c || isDig c || c == 95 || c == 46
def isName : Str → Bool
  | [] => false
  | c :: r => letter c && r.all nameCh && decide (r.length ≤ 9)
def lenOk (t : Ty) : Bool :=
  if t.k = 0 then decide (1 ≤ t.l ∧ t.l ≤ 256) else if t.k = 1 ∨ t.k = 2 then decide (1 ≤ t.l ∧ t.l ≤ 15) else if t.k = 3 then decide (t.l = 4 ∨ t.l = 9) else decide (t.l = 0)
def typeErr (t : Ty) : Int :=
  if ¬ (0 ≤ t.k ∧ t.k ≤ 4) then 4 else if lenOk t = false then 18 else if 0 ≤ t.s ∧ t.s ≤ (if 1 ≤ t.k ∧ t.k ≤ 3 then t.l else 0) then 0 else 3
def most (l : Int) : Int := 10 ^ l.toNat - 1
def valueErr (t : Ty) (n : Int) (v : Str) : Int :=
  if typeErr t ≠ 0 then typeErr t else if t.k = 4 then 17 else if (t.k = 0 ∧ n ≠ 0) ∨ (t.k ≠ 0 ∧ v ≠ []) then 5
  else if t.k = 0 then (if (v.length : Int) = t.l then 0 else 18) else if -most t.l ≤ n ∧ n ≤ most t.l then 0 else 19
def size (t : Ty) : Int := if t.k = 1 then t.l / 2 + 1 else if t.k = 3 then (if t.l = 9 then 4 else 2) else if t.k = 4 then 16 else t.l
def isData (k : Int) : Bool := decide (k = 0 ∨ k = 1 ∨ k = 2 ∨ k = 4)
def isNum (t : Ty) : Bool := decide (1 ≤ t.k ∧ t.k ≤ 3)
def named : List Opd → Str → Int
  | [], _ => -1
  | o :: r, s => if o.name = s then 0 else if named r s < 0 then -1 else named r s + 1
def tyZero (t : Ty) : Bool := decide (t.k = 0 ∧ t.l = 0 ∧ t.s = 0)
def hasExtra (o : Opd) : Bool :=
  let noValue := decide (o.n = 0) && o.v.isEmpty
  let noBase := o.base.isEmpty && decide (o.off = 0)
  if o.kind = 0 ∨ o.kind = 4 then !noBase || decide (o.tgt ≠ 0)
  else if o.kind = 1 ∨ o.kind = 2 then !noValue || decide (o.tgt ≠ 0)
  else if o.kind = 3 then !tyZero o.ty || !noValue || !noBase || decide (o.tgt ≠ 0)
  else !tyZero o.ty || !noValue || !noBase
def chk : List (Bool × Int) → Int
  | [] => 0
  | (b, e) :: r => if b = true then e else chk r
def opErr (p : Prg) (i : Nat) : Int :=
  let o := p.ops.getD i opd0
  let at_ := named p.ops o.base
  let under := p.ops.getD at_.toNat opd0
  let based := decide (o.kind = 1 ∨ o.kind = 2)
  chk [(!isName o.name, 7), (decide (named p.ops o.name < (i : Int)), 13), (!decide (0 ≤ o.kind ∧ o.kind ≤ 5), 4), (hasExtra o, 5),
    (isData o.kind && decide (typeErr o.ty ≠ 0), typeErr o.ty), (isData o.kind && decide (o.ty.k = 4), 17),
    (decide (o.kind = 0 ∨ o.kind = 4) && decide (valueErr o.ty o.n o.v ≠ 0), valueErr o.ty o.n o.v),
    (based && decide (at_ = -1 ∨ (i : Int) ≤ at_), 11), (based && decide (under.kind ≠ (if o.kind = 2 then 3 else 0)), 17),
    (based && !decide (0 ≤ o.off ∧ o.off ≤ (if o.kind = 2 then 256 else size under.ty - size o.ty)), 3),
    (decide (o.kind = 5) && !decide (0 ≤ o.tgt ∧ o.tgt ≤ (p.ins.length : Int) - 1), 3)]
def room : List Opd → Int
  | [] => 0
  | o :: r => (if o.kind = 3 then 16 else if o.kind = 0 then size o.ty else 0) + room r
def quads (l : List Opd) : Int := (room l + 15) / 16
def roles (op : Int) : List Int :=
  [[0, 4], [2, 3], [2, 3, 3], [2, 3, 3], [2, 3, 3], [2, 3, 3], [2, 3, 3], [1, 4, 6], [1, 4, 6], [6], [5, 0], [5, 5], [5, 3], [6], [], [3], [2], [1], []].getD op.toNat []
def fits (o before : Opd) (role : Int) : Bool :=
  if role = 5 then decide (o.kind = 3)
  else if role = 6 then decide (o.kind = 5)
  else isData o.kind && !((decide (role = 0) || decide (role = 2)) && decide (o.kind = 4)) && !((decide (role = 2) || decide (role = 3)) && !isNum o.ty) && !(decide (role = 4) && (isNum o.ty != isNum before.ty))
def firstErr (f : Nat → Int) : Nat → Int
  | 0 => 0
  | n + 1 => if firstErr f n ≠ 0 then firstErr f n else f n
def argOpd (p : Prg) (x : Ins) (i : Nat) : Opd := p.ops.getD (x.args.getD i 0).toNat opd0
def argBefore (p : Prg) (x : Ins) : Nat → Opd
  | 0 => opd0
  | i + 1 => argOpd p x i
def argErr (p : Prg) (x : Ins) (i : Nat) : Int :=
  if ¬ (0 ≤ x.args.getD i 0 ∧ x.args.getD i 0 ≤ (p.ops.length : Int) - 1) then 3
  else if fits (argOpd p x i) (argBefore p x i) ((roles x.op).getD i 0) = false then 17 else 0
def insErr (p : Prg) (x : Ins) : Int :=
  if ¬ (0 ≤ x.op ∧ x.op ≤ 18) then 4 else if x.args.length ≠ (roles x.op).length then 37 else firstErr (argErr p x) x.args.length
theorem firstErr_zero {f : Nat → Int} : ∀ {n : Nat}, firstErr f n = 0 → ∀ k, k < n → f k = 0
  | 0, _, k, hk => absurd hk (Nat.not_lt_zero k)
  | n + 1, h, k, hk => by
    by_cases h0 : firstErr f n = 0
    · simp only [firstErr, h0, ne_eq, not_true, if_false] at h
      rcases Nat.lt_or_ge k n with h1 | h1
      · exact firstErr_zero h0 k h1
      · have : k = n := by omega
        subst this; exact h
    · rw [firstErr, if_pos h0] at h
      exact absurd h h0
theorem firstErr_all {f : Nat → Int} : ∀ {n : Nat}, (∀ k, k < n → f k = 0) → firstErr f n = 0
  | 0, _ => rfl
  | n + 1, h => by
    have h0 := firstErr_all (n := n) fun k hk => h k (by omega)
    simp only [firstErr, h0, ne_eq, not_true, if_false]
    exact h n (by omega)
theorem firstErr_at {f : Nat → Int} {i : Nat} (hi : ∀ k, k < i → f k = 0) (h : f i ≠ 0) : ∀ {n : Nat}, i < n → firstErr f n = f i
  | 0, hn => absurd hn (Nat.not_lt_zero i)
  | n + 1, hn => by
    rcases Nat.lt_or_ge i n with h1 | h1
    · have := firstErr_at hi h (n := n) h1
      simp only [firstErr, this, ne_eq, h, not_false_eq_true, if_true]
    · have : i = n := by omega
      subst this
      have h0 := firstErr_all hi
      simp only [firstErr, h0, ne_eq, not_true, if_false]
def monOk (p : Prg) (m : Mon) : Bool :=
  decide (0 ≤ m.fr ∧ m.fr < m.to ∧ m.to ≤ (p.ins.length : Int) ∧ 0 ≤ m.ex ∧ m.ex ≤ 999 ∧ 0 ≤ m.hd ∧ m.hd ≤ (p.ins.length : Int) - 1)
structure Valid (p : Prg) : Prop where
  nops : p.ops.length ≤ 24
  nins : p.ins.length ≤ 40
  nmons : p.mons.length ≤ 6
  some : p.ins ≠ []
  ops : ∀ i, i < p.ops.length → opErr p i = 0
  room : quads p.ops ≤ 24
  ins : ∀ x ∈ p.ins, insErr p x = 0
  mons : ∀ m ∈ p.mons, monOk p m = true
def sDCLsp : Str := [68, 67, 76, 32]
def sEnd : Str := [59, 10]
def kindWords : List Str := [[67, 72, 65, 82], [80, 65, 67, 75, 69, 68], [90, 79, 78, 69, 68], [66, 73, 78, 65, 82, 89]]
def opNames : List Str := [[77, 79, 86, 69], [77, 79, 86, 69, 72], [65, 68, 68], [83, 85, 66], [77, 85, 76], [68, 73, 86], [82, 69, 77], [73, 70, 69, 81], [73, 70, 76, 84], [71, 79, 84, 79], [65, 68, 68, 82], [77, 79, 86, 69, 80],
  [65, 68, 86, 65, 78, 67, 69], [67, 65, 76, 76], [82, 69, 84, 85, 82, 78], [83, 73, 71, 78, 65, 76], [69, 88, 67, 69, 80, 84, 73, 79, 78], [80, 82, 73, 78, 84], [69, 78, 68]]
def sMON : Str := [77, 79, 78, 73, 84, 79, 82]
def typeText (t : Ty) : Str := kindWords.getD t.k.toNat [] ++ [40] ++ itoa t.l ++ (if t.k = 0 then [] else [44] ++ itoa t.s) ++ [41]
def isShown (s : Str) : Bool := s.all fun c => decide (32 ≤ c.toNat ∧ c.toNat ≤ 126)
def hexds : Str := [48, 49, 50, 51, 52, 53, 54, 55, 56, 57, 65, 66, 67, 68, 69, 70]
def hexText (s : Str) : Str := s.flatMap fun c => [hexds.getD (c.toNat / 16) 0, hexds.getD (c.toNat % 16) 0]
def numberOk (n scale : Int) : Bool := decide (-999999999999999 ≤ n ∧ n ≤ 999999999999999 ∧ 0 ≤ scale ∧ scale ≤ 15)
def padded (d : Str) (scale : Nat) : Str := if d.length ≤ scale then List.replicate (scale + 1 - d.length) 48 ++ d else d
def pointed (d : Str) (scale : Nat) : Str := if scale = 0 then d else d.take (d.length - scale) ++ [46] ++ d.drop (d.length - scale)
def numText (n scale : Int) : Str :=
  if numberOk n scale then (if n < 0 then [45] else []) ++ pointed (padded (itoa (max n (-n))) scale.toNat) scale.toNat else []
def valueText (t : Ty) (n : Int) (v : Str) : Str :=
  if t.k ≠ 0 then numText n t.s else if isShown v then [39] ++ replaceAll v [39] [39, 39] ++ [39] else [88, 39] ++ hexText v ++ [39]
def opdLine (o : Opd) : Str :=
  if o.kind = 0 then [68, 67, 76, 32, 68, 68, 32] ++ o.name ++ [32] ++ typeText o.ty ++ [32, 73, 78, 73, 84, 40] ++ valueText o.ty o.n o.v ++ [41]
  else if o.kind = 1 then [68, 67, 76, 32, 68, 68, 32] ++ o.name ++ [32] ++ typeText o.ty ++ [32, 68, 69, 70, 40] ++ o.base ++ [44] ++ itoa o.off ++ [41]
  else if o.kind = 2 then [68, 67, 76, 32, 68, 68, 32] ++ o.name ++ [32] ++ typeText o.ty ++ [32, 66, 65, 83, 40] ++ o.base ++ [44] ++ itoa o.off ++ [41]
  else if o.kind = 3 then [68, 67, 76, 32, 80, 84, 82, 32] ++ o.name
  else if o.kind = 4 then [68, 67, 76, 32, 67, 79, 78, 32] ++ o.name ++ [32] ++ typeText o.ty ++ [32, 73, 78, 73, 84, 40] ++ valueText o.ty o.n o.v ++ [41]
  else [68, 67, 76, 32, 76, 65, 66, 69, 76, 32] ++ o.name ++ [32] ++ itoa o.tgt
def insLine (op : Int) (args : List Str) : Str := if args = [] then opNames.getD op.toNat [] else opNames.getD op.toNat [] ++ [32] ++ join args [44]
def monLine (m : Mon) : Str := sMON ++ [32] ++ itoa m.fr ++ [32] ++ itoa m.to ++ [32] ++ itoa m.ex ++ [32] ++ itoa m.hd
def argNames (p : Prg) (x : Ins) : List Str := x.args.map fun a => (p.ops.getD a.toNat opd0).name
def progLines (p : Prg) : List Str := p.ops.map opdLine ++ p.ins.map (fun x => insLine x.op (argNames p x)) ++ p.mons.map monLine
def progText (p : Prg) : Str := (progLines p).flatMap (· ++ sEnd)
def atoiN (s : Str) : Int := match atoiAll s with | .ok v => v | .range => atoiSat s | _ => 0
def atoiOk (s : Str) : Bool := match atoiAll s with | .ok _ => true | _ => false
def natOk (s : Str) : Bool := atoiOk s && decide (s.length ≤ 15) && decide (itoa (atoiN s) = s) && decide (0 ≤ atoiN s)
def idxOf : List Str → Str → Int
  | [], _ => -1
  | x :: r, s => if x = s then 0 else if idxOf r s < 0 then -1 else idxOf r s + 1
def typeOf (s : Str) : Ty × Bool :=
  let c := cut s [40]
  let kind := idxOf kindWords c.1
  let rest := trimSuffix c.2.1 [41]
  if kind < 0 ∨ hasSuffix c.2.1 [41] = false then (ty0, false)
  else if kind = 0 then (⟨kind, atoiN rest, 0⟩, natOk rest)
  else
    let d := cut rest [44]
    (⟨kind, atoiN d.1, atoiN d.2.1⟩, natOk d.1 && natOk d.2.1)
def bytesOf (acc : Str) : Str → Str × Bool
  | a :: b :: r => if indexByte hexds a < 0 ∨ indexByte hexds b < 0 then ([], false) else bytesOf (acc ++ [UInt8.ofNat ((indexByte hexds a).toNat * 16 + (indexByte hexds b).toNat)]) r
  | s => (acc, s.isEmpty)
def runOf (s : Str) (i : Nat) : Nat := ((s.drop i).takeWhile isDig).length
def minus (s : Str) : Nat := if s.head? = some 45 then 1 else 0
def numOk (s : Str) : Bool :=
  let a := minus s
  let to := a + runOf s a
  if s.length = 0 ∨ 40 < s.length then false
  else if runOf s a = 0 then false
  else if s.getD a 0 = 48 ∧ a + 1 < to then false
  else if to = s.length then true
  else if s.getD to 0 ≠ 46 then false
  else if runOf s (to + 1) = 0 ∨ to + 1 + runOf s (to + 1) < s.length then false
  else true
def digitsVal (acc : Int) : Str → Int
  | [] => acc
  | c :: r => digitsVal (acc * 10 + ((c.toNat : Int) - 48)) r
def parseNum (s : Str) : Bool × Int × Int :=
  if numOk s then
    let c := cut (s.drop (minus s)) [46]
    let all := trimLeftB c.1 48 ++ c.2.1
    if 15 < all.length then (false, 0, 0) else (true, (if minus s = 1 then -digitsVal 0 all else digitsVal 0 all), (c.2.1.length : Int))
  else (false, 0, 0)
def valueOf (t : Ty) (s : Str) : Int × Str × Bool :=
  if t.k ≠ 0 then
    let x := parseNum s
    (x.2.1, [], x.1 && decide (x.2.2 = t.s))
  else
    let r := trimPrefix s [88]
    if r.length < 2 ∨ r.getD 0 0 ≠ 39 ∨ r.getD (r.length - 1) 0 ≠ 39 then (0, [], false)
    else
      let m := (r.drop 1).take (r.length - 2)
      if hasPrefix s [88] then (0, (bytesOf [] m).1, (bytesOf [] m).2) else (0, replaceAll m [39, 39] [39], true)
def declared (s : Str) : Opd × Bool :=
  let c := cut s [32]
  let d := cut c.2.1 [32]
  let o : Opd := { opd0 with name := d.1 }
  if c.1 = [80, 84, 82] then ({ o with kind := 3 }, !d.2.2)
  else if c.1 = [76, 65, 66, 69, 76] then ({ o with kind := 5, tgt := atoiN d.2.1 }, natOk d.2.1)
  else if c.1 ≠ [68, 68] ∧ c.1 ≠ [67, 79, 78] then (o, false)
  else
    let e := cut d.2.1 [32]
    let t := typeOf e.1
    let f := cut e.2.1 [40]
    let inner := trimSuffix f.2.1 [41]
    if t.2 = false ∨ hasSuffix f.2.1 [41] = false then ({ o with ty := t.1 }, false)
    else if f.1 = [73, 78, 73, 84] then
      let v := valueOf t.1 inner
      ({ o with ty := t.1, kind := if c.1 = [67, 79, 78] then 4 else 0, n := v.1, v := v.2.1 }, v.2.2)
    else
      let g := cut inner [44]
      let kind := if f.1 = [68, 69, 70] then 1 else if f.1 = [66, 65, 83] then 2 else 0
      ({ o with ty := t.1, base := g.1, off := atoiN g.2.1, kind := kind }, natOk g.2.1 && decide (c.1 = [68, 68]) && decide (kind ≠ 0) && isName g.1)
structure Ln where
  at_ : Int
  part : Int
  opd : Opd
  op : Int
  args : List Str
  mon : Mon
def ln0 : Ln := ⟨0, 0, opd0, 0, [], mon0⟩
def readLine (s : Str) : Ln × Bool :=
  if hasPrefix s sDCLsp then
    let d := declared (trimPrefix s sDCLsp)
    ({ ln0 with part := 1, opd := d.1 }, d.2 && isName d.1.name && decide (opdLine d.1 = s))
  else
    let c := cut s [32]
    if c.1 = sMON then
      let l := split c.2.1 [32]
      if l.all natOk = false ∨ l.length ≠ 4 then (ln0, false)
      else ({ ln0 with part := 3, mon := ⟨atoiN (l.getD 0 []), atoiN (l.getD 1 []), atoiN (l.getD 2 []), atoiN (l.getD 3 [])⟩ }, true)
    else
      let args := if c.2.2 then split c.2.1 [44] else []
      ({ ln0 with part := 2, op := idxOf opNames c.1, args := args }, decide (0 ≤ idxOf opNames c.1) && args.all isName)
end Go.Tx
end
section
set_option linter.unusedVariables false
set_option linter.unusedSimpArgs false
namespace Go.Tx
open Go.Lib
theorem index_hit {c : UInt8} : ∀ {a b : Str}, c ∉ a → index (a ++ c :: b) [c] = a.length
  | [], b, _ => by simp [index, List.isPrefixOf]
  | x :: a, b, h => by
    simp only [List.mem_cons, not_or] at h
    have ih := index_hit (b := b) h.2
    have hx : (c == x) = false := by simpa using h.1
    simp only [List.cons_append, index, List.isPrefixOf, hx, Bool.false_and, ih]
    have : ((a.length : Int) == -1) = false := by rw [beq_eq_false_iff_ne]; omega
    simp [this]
theorem index_miss {c : UInt8} : ∀ {a : Str}, c ∉ a → index a [c] = -1
  | [], _ => by simp [index]
  | x :: a, h => by
    simp only [List.mem_cons, not_or] at h
    have hx : (c == x) = false := by simpa using h.1
    simp [index, List.isPrefixOf, hx, index_miss h.2]
theorem cut_hit {c : UInt8} {a b : Str} (h : c ∉ a) : cut (a ++ c :: b) [c] = (a, b, true) := by
  unfold cut
  rw [index_hit h, if_pos (by omega)]
  have e : a ++ c :: b = (a ++ [c]) ++ b := by simp
  simp only [Int.toNat_natCast, List.take_left']
  rw [e]
  simp
theorem cut_miss {c : UInt8} {a : Str} (h : c ∉ a) : cut a [c] = (a, [], false) := by
  unfold cut
  rw [index_miss h, if_neg (by decide)]
theorem indexE_hit : ∀ {a b : Str}, (10 : UInt8) ∉ a → index (a ++ 59 :: 10 :: b) sEnd = a.length
  | [], b, _ => by simp [index, sEnd, List.isPrefixOf]
  | x :: a, b, h => by
    simp only [List.mem_cons, not_or] at h
    have ih := indexE_hit (b := b) h.2
    have hp : sEnd.isPrefixOf (x :: (a ++ 59 :: 10 :: b)) = false := by
      cases a with
      | nil => simp [sEnd, List.isPrefixOf]
      | cons y a =>
        have : (10 : UInt8) ≠ y := fun e => h.2 (by simp [e])
        simp [sEnd, List.isPrefixOf, this]
    have : ((a.length : Int) == -1) = false := by rw [beq_eq_false_iff_ne]; omega
    simp only [List.cons_append, index, hp, ih, this]
    simp
theorem indexE_miss : ∀ {a : Str}, (10 : UInt8) ∉ a → index a sEnd = -1
  | [], _ => by simp [index, sEnd]
  | x :: a, h => by
    simp only [List.mem_cons, not_or] at h
    have hp : sEnd.isPrefixOf (x :: a) = false := by
      cases a with
      | nil => simp [sEnd, List.isPrefixOf]
      | cons y a =>
        have : (10 : UInt8) ≠ y := fun e => h.2 (by simp [e])
        simp [sEnd, List.isPrefixOf, this]
    simp [index, hp, indexE_miss h.2]
theorem cutE_hit {a b : Str} (h : (10 : UInt8) ∉ a) : cut (a ++ 59 :: 10 :: b) sEnd = (a, b, true) := by
  unfold cut
  rw [indexE_hit h, if_pos (by omega)]
  have e : a ++ 59 :: 10 :: b = (a ++ [59, 10]) ++ b := by simp
  simp only [Int.toNat_natCast, List.take_left', sEnd]
  rw [e]
  simp
theorem cutE_miss {a : Str} (h : (10 : UInt8) ∉ a) : cut a sEnd = (a, [], false) := by
  unfold cut
  rw [indexE_miss h, if_neg (by decide)]
theorem hasSuffix_end (a : Str) (c : UInt8) : hasSuffix (a ++ [c]) [c] = true := by
  simp [hasSuffix, List.isSuffixOf, List.isPrefixOf]
theorem trimSuffix_end (a : Str) (c : UInt8) : trimSuffix (a ++ [c]) [c] = a := by
  unfold trimSuffix
  rw [hasSuffix_end, if_pos rfl]
  simp
def dv (c : UInt8) : Nat := c.toNat - 48
def valD (acc : Nat) (s : Str) : Nat := s.foldl (fun a c => a * 10 + dv c) acc
theorem valD_nil (acc : Nat) : valD acc [] = acc := rfl
theorem valD_cons (acc : Nat) (c : UInt8) (r : Str) : valD acc (c :: r) = valD (acc * 10 + dv c) r := by unfold valD; rw [List.foldl_cons]
def Digs (s : Str) : Prop := ∀ c ∈ s, isDig c = true
theorem Digs.append {a b : Str} (h : Digs a) (k : Digs b) : Digs (a ++ b) := fun c hc => by
  rcases List.mem_append.1 hc with h1 | h1
  · exact h c h1
  · exact k c h1
theorem valD_append : ∀ (a b : Str) (acc : Nat), valD acc (a ++ b) = valD (valD acc a) b
  | [], b, acc => by rw [valD_nil, List.nil_append]
  | c :: a, b, acc => by rw [List.cons_append, valD_cons, valD_cons, valD_append a b]
theorem valD_ge : ∀ (a : Str) (acc : Nat), acc ≤ valD acc a
  | [], acc => by rw [valD_nil]; exact Nat.le_refl _
  | c :: a, acc => by
    have := valD_ge a (acc * 10 + dv c)
    rw [valD_cons]
    omega
theorem digit_toNat {d : Nat} (h : d < 10) : (UInt8.ofNat (48 + d)).toNat = 48 + d := by
  rw [UInt8.toNat_ofNat']
  omega
theorem digit_isDig {d : Nat} (h : d < 10) : isDig (UInt8.ofNat (48 + d)) = true := by
  simp only [isDig, digit_toNat h, decide_eq_true_eq]
  omega
theorem decDigits_digs (u : Nat) : Digs (decDigits u) := by
  induction u using Nat.strongRecOn with
  | _ u ih =>
    rw [decDigits]
    split
    · rename_i h
      intro c hc
      simp only [List.mem_singleton] at hc
      subst hc
      exact digit_isDig h
    · refine (ih (u / 10) (by omega)).append fun c hc => ?_
      simp only [List.mem_singleton] at hc
      subst hc
      exact digit_isDig (Nat.mod_lt _ (by omega))
theorem decDigits_ne (u : Nat) : decDigits u ≠ [] := by
  rw [decDigits]
  split <;> simp
theorem valD_decDigits (u : Nat) : valD 0 (decDigits u) = u := by
  induction u using Nat.strongRecOn with
  | _ u ih =>
    rw [decDigits]
    split
    · rename_i h
      simp only [valD_cons, valD_nil, dv, digit_toNat h]
      omega
    · rw [valD_append, ih (u / 10) (by omega)]
      simp only [valD_cons, valD_nil, dv, digit_toNat (Nat.mod_lt u (by omega : 10 > 0))]
      omega
theorem parseUint10_digs : ∀ (l : Str) (acc : Nat), Digs l → valD acc l < 9223372036854775808 → parseUint10 acc l = .ok (valD acc l)
  | [], acc, _, _ => by rw [valD_nil]; rfl
  | c :: r, acc, h, hv => by
    have hc := h c (by simp)
    simp only [isDig, decide_eq_true_eq] at hc
    have hge := valD_ge r (acc * 10 + dv c)
    rw [valD_cons] at hv ⊢
    have hdv : dv c = c.toNat - 48 := rfl
    rw [hdv] at hv hge ⊢
    simp only [parseUint10]
    rw [if_pos hc, if_neg (by omega), if_neg (by omega), parseUint10_digs r _ (fun x hx => h x (by simp [hx])) hv]
theorem atoiAll_decDigits {u : Nat} (h : u < 9223372036854775808) : atoiAll (decDigits u) = .ok (u : Int) := by
  have hd := decDigits_digs u
  have hv := valD_decDigits u
  cases hl : decDigits u with
  | nil => exact absurd hl (decDigits_ne u)
  | cons c r =>
    rw [hl] at hd hv
    have hc := hd c (by simp)
    simp only [isDig, decide_eq_true_eq] at hc
    have hm : parseMag (c :: r) = .ok u := by
      unfold parseMag
      rw [if_neg (by simp), parseUint10_digs _ _ hd (by omega), hv]
    simp only [atoiAll]
    rw [if_neg (by omega), hm]
    simp only
    rw [if_neg (by omega), if_neg (by omega), if_neg (by omega)]
theorem decDigits_len {u k : Nat} (h : u < 10 ^ k) (hk : 1 ≤ k) : (decDigits u).length ≤ k := by
  induction k generalizing u with
  | zero => omega
  | succ k ih =>
    rw [decDigits]
    split
    · simp
    · rename_i hu
      rcases Nat.eq_zero_or_pos k with rfl | hk
      · simp at h; omega
      · have := ih (u := u / 10) (by rw [Nat.pow_succ] at h; omega) hk
        simp only [List.length_append, List.length_singleton]
        omega
theorem itoa_nat (u : Nat) : itoa (u : Int) = decDigits u := itoa_nonneg u
theorem itoa_of {n : Int} (h : 0 ≤ n) : itoa n = decDigits n.toNat := by
  conv => lhs; rw [← Int.toNat_of_nonneg h]
  exact itoa_nat _
theorem atoi_itoa {n : Int} (h0 : 0 ≤ n) (h1 : n < 1000000000000000) : atoiN (itoa n) = n ∧ natOk (itoa n) = true := by
  have e : atoiAll (itoa n) = .ok n := by
    rw [itoa_of h0, atoiAll_decDigits (by omega)]
    simp [Int.toNat_of_nonneg h0]
  have e2 : atoiN (itoa n) = n := by simp [atoiN, e]
  refine ⟨e2, ?_⟩
  have hl : (itoa n).length ≤ 15 := by
    rw [itoa_of h0]
    exact decDigits_len (by omega) (by omega)
  simp only [natOk, atoiOk, e, e2, hl, h0, decide_true, Bool.and_true]
theorem natOk_digs {s : Str} (h : natOk s = true) : Digs s ∧ s ≠ [] ∧ 0 ≤ atoiN s ∧ s = itoa (atoiN s) := by
  simp only [natOk, Bool.and_eq_true, decide_eq_true_eq] at h
  obtain ⟨⟨⟨h1, h2⟩, h3⟩, h4⟩ := h
  have e := h3
  rw [itoa_of h4] at e
  refine ⟨?_, ?_, h4, h3.symm⟩
  · rw [← e]; exact decDigits_digs _
  · rw [← e]; exact decDigits_ne _
theorem Digs.no {s : Str} (h : Digs s) {c : UInt8} (hc : isDig c = false) : c ∉ s := fun hm => by
  rw [h c hm] at hc
  cases hc
theorem itoa_digs {n : Int} (h : 0 ≤ n) : Digs (itoa n) := by rw [itoa_of h]; exact decDigits_digs _
end Go.Tx
end
section
set_option linter.unusedVariables false
set_option linter.unusedSimpArgs false
namespace Go.Tx
open Go.Lib
theorem first_split (c : UInt8) : ∀ s : Str, c ∉ s ∨ ∃ a b, s = a ++ c :: b ∧ c ∉ a
  | [] => .inl (by simp)
  | x :: s => by
    by_cases hx : x = c
    · exact .inr ⟨[], s, by simp [hx], by simp⟩
    · rcases first_split c s with h | ⟨a, b, rfl, h⟩
      · exact .inl (by simp [h, Ne.symm hx])
      · exact .inr ⟨x :: a, b, by simp, by simp [h, Ne.symm hx]⟩
theorem neg_one_ne (n : Nat) : ((n : Int) == -1) = false := by rw [beq_eq_false_iff_ne]; omega
theorem drop_hit (a b : Str) (c : UInt8) : (a ++ c :: b).drop (a.length + 1) = b := by
  have e : a ++ c :: b = (a ++ [c]) ++ b := by simp
  rw [e]
  exact List.drop_left' (by simp)
theorem drop_hit2 (a b : Str) (c d : UInt8) : (a ++ c :: d :: b).drop (a.length + 2) = b := by
  have e : a ++ c :: d :: b = (a ++ [c, d]) ++ b := by simp
  rw [e]
  exact List.drop_left' (by simp)
theorem countFrom_miss {sub s : Str} (h : index s sub = -1) : ∀ f, countFrom sub f s = 0
  | 0 => rfl
  | f + 1 => by simp [countFrom, h]
theorem countFrom_hit {sub s : Str} {i : Nat} (h : index s sub = i) (f : Nat) : countFrom sub (f + 1) s = countFrom sub f (s.drop (i + sub.length)) + 1 := by
  simp only [countFrom, h, neg_one_ne, Int.toNat_natCast]
  simp [Nat.add_comm]
def subst (c : UInt8) (new : Str) (s : Str) : Str := s.flatMap fun x => if x = c then new else [x]
theorem subst_no {c : UInt8} {new : Str} : ∀ {s : Str}, c ∉ s → subst c new s = s
  | [], _ => rfl
  | x :: s, h => by
    simp only [List.mem_cons, not_or] at h
    have := subst_no (new := new) h.2
    simp only [subst, List.flatMap_cons, if_neg (Ne.symm h.1)] at this ⊢
    rw [this]; rfl
theorem subst_hit {c : UInt8} {new a b : Str} (h : c ∉ a) : subst c new (a ++ c :: b) = a ++ new ++ subst c new b := by
  have := subst_no (new := new) h
  unfold subst at this ⊢
  simp only [List.flatMap_append, List.flatMap_cons, if_pos, this, List.append_assoc]
theorem replaceK_one {c : UInt8} {new : Str} : ∀ (f : Nat) (s : Str), s.length < f → replaceK [c] new (countFrom [c] f s) s = subst c new s
  | 0, s, h => by omega
  | f + 1, s, h => by
    rcases first_split c s with hs | ⟨a, b, rfl, hs⟩
    · rw [countFrom_miss (index_miss hs), subst_no hs]; rfl
    · rw [countFrom_hit (index_hit hs), replaceK_hit _ _ _ _ _ (index_hit hs), subst_hit hs]
      simp only [List.length_singleton, drop_hit, List.take_left']
      rw [replaceK_one f b (by simp at h; omega)]
theorem replaceAll_one {c : UInt8} {new s : Str} (hn : [c] ≠ new) : replaceAll s [c] new = subst c new s := by
  have h0 : ([c] == new) = false := by rw [beq_eq_false_iff_ne]; exact hn
  unfold replaceAll replace
  rw [h0]
  simp only [Bool.false_eq_true, if_false]
  have : replaceNum s [c] (-1) = count s [c] := by unfold replaceNum; rw [if_pos (.inl (by decide))]
  rw [this]
  exact replaceK_one _ s (by omega)
def dbl (s : Str) : Str := subst 39 [39, 39] s
theorem index2_hit : ∀ {a b : Str}, (39 : UInt8) ∉ a → index (a ++ 39 :: 39 :: b) [39, 39] = a.length
  | [], b, _ => by simp [index, List.isPrefixOf]
  | x :: a, b, h => by
    simp only [List.mem_cons, not_or] at h
    have ih := index2_hit (b := b) h.2
    have hx : ((39 : UInt8) == x) = false := by simpa using h.1
    simp only [List.cons_append, index, List.isPrefixOf, hx, Bool.false_and, ih, neg_one_ne]
    simp
theorem index2_miss : ∀ {a : Str}, (39 : UInt8) ∉ a → index a [39, 39] = -1
  | [], _ => by simp [index]
  | x :: a, h => by
    simp only [List.mem_cons, not_or] at h
    have hx : ((39 : UInt8) == x) = false := by simpa using h.1
    simp [index, List.isPrefixOf, hx, index2_miss h.2]
theorem replaceK_two : ∀ (f : Nat) (v : Str), (dbl v).length < f → replaceK [39, 39] [39] (countFrom [39, 39] f (dbl v)) (dbl v) = v
  | 0, v, h => by omega
  | f + 1, v, h => by
    rcases first_split 39 v with hs | ⟨a, b, rfl, hs⟩
    · have e : dbl v = v := subst_no hs
      rw [e, countFrom_miss (index2_miss hs)]; rfl
    · have e : dbl (a ++ 39 :: b) = a ++ 39 :: 39 :: dbl b := by
        rw [dbl, subst_hit hs]; simp [dbl]
      rw [e] at h ⊢
      rw [countFrom_hit (index2_hit hs), replaceK_hit _ _ _ _ _ (index2_hit hs)]
      simp only [List.length_cons, List.length_nil, drop_hit2, List.take_left']
      rw [replaceK_two f b (by simp at h; omega)]
      simp
theorem undbl (v : Str) : replaceAll (replaceAll v [39] [39, 39]) [39, 39] [39] = v := by
  rw [replaceAll_one (by simp)]
  have h0 : (([39, 39] : Str) == [39]) = false := by decide
  show replaceAll (dbl v) [39, 39] [39] = v
  unfold replaceAll replace
  rw [h0]
  simp only [Bool.false_eq_true, if_false]
  have : replaceNum (dbl v) [39, 39] (-1) = count (dbl v) [39, 39] := by unfold replaceNum; rw [if_pos (.inl (by decide))]
  rw [this]
  exact replaceK_two _ v (by omega)
theorem mem_subst {c : UInt8} {new s : Str} {x : UInt8} (h : x ∈ subst c new s) : x ∈ s ∨ x ∈ new := by
  simp only [subst, List.mem_flatMap] at h
  obtain ⟨y, hy, h⟩ := h
  split at h
  · exact .inr h
  · simp only [List.mem_singleton] at h; exact .inl (h ▸ hy)
theorem hex_index : ∀ k, k < 16 → indexByte hexds (hexds.getD k 0) = (k : Int) := by decide
theorem hex_byte (c : UInt8) : UInt8.ofNat (c.toNat / 16 * 16 + c.toNat % 16) = c := by
  rw [Nat.div_add_mod']
  exact UInt8.ofNat_toNat
theorem bytesOf_hex : ∀ (v acc : Str), bytesOf acc (hexText v) = (acc ++ v, true)
  | [], acc => by simp [hexText, bytesOf]
  | c :: v, acc => by
    have h1 : c.toNat / 16 < 16 := by have := c.toNat_lt; omega
    have h2 : c.toNat % 16 < 16 := Nat.mod_lt _ (by omega)
    have e : hexText (c :: v) = hexds.getD (c.toNat / 16) 0 :: hexds.getD (c.toNat % 16) 0 :: hexText v := by simp [hexText]
    rw [e, bytesOf, hex_index _ h1, hex_index _ h2, if_neg (by omega), bytesOf_hex v]
    simp only [Int.toNat_natCast, hex_byte]
    simp
theorem hexd_mem (k : Nat) : k < 16 → hexds.getD k 0 ∈ hexds := by
  intro h
  rw [List.getD_eq_getElem?_getD, List.getElem?_eq_getElem (by simpa [hexds] using h)]
  exact List.getElem_mem _
theorem hexText_mem {v : Str} {x : UInt8} (h : x ∈ hexText v) : x ∈ hexds := by
  simp only [hexText, List.mem_flatMap] at h
  obtain ⟨c, _, h⟩ := h
  have := c.toNat_lt
  simp only [List.mem_cons, List.mem_nil_iff, or_false] at h
  rcases h with rfl | rfl
  · exact hexd_mem _ (by omega)
  · exact hexd_mem _ (Nat.mod_lt _ (by omega))
def jn (c : UInt8) : List Str → Str
  | [] => []
  | [x] => x
  | x :: r => x ++ c :: jn c r
theorem join_jn (c : UInt8) : ∀ (xs : List Str), join xs [c] = jn c xs
  | [] => rfl
  | [x] => by simp [join_one, jn]
  | x :: y :: r => by
    have ih := join_jn c (y :: r)
    rw [join_cons] at ih
    rw [join_cons, jn, ← ih]
    · simp [joinTail]
    · simp
theorem splitK_jn {c : UInt8} : ∀ (xs : List Str) (f : Nat), xs ≠ [] → (∀ x ∈ xs, c ∉ x) → (jn c xs).length < f → splitK [c] 0 (countFrom [c] f (jn c xs)) (jn c xs) = xs
  | [], f, h, _, _ => absurd rfl h
  | [x], f, _, h, _ => by
    have hx : c ∉ x := h x (by simp)
    simp only [jn]
    rw [countFrom_miss (index_miss hx)]; rfl
  | x :: y :: r, 0, _, h, hf => by omega
  | x :: y :: r, f + 1, _, h, hf => by
    have hx : c ∉ x := h x (by simp)
    have e : jn c (x :: y :: r) = x ++ c :: jn c (y :: r) := by simp [jn]
    rw [e] at hf ⊢
    rw [countFrom_hit (index_hit hx)]
    simp only [List.length_singleton, drop_hit]
    simp only [splitK, index_hit hx, neg_one_ne, Bool.false_eq_true, if_false, Int.toNat_natCast, Nat.add_zero, List.take_left', List.length_singleton, drop_hit]
    rw [splitK_jn (y :: r) f (by simp) (fun z hz => h z (by simp only [List.mem_cons] at hz ⊢; exact .inr hz)) (by simp at hf; omega)]
theorem split_join {c : UInt8} {xs : List Str} (h0 : xs ≠ []) (h : ∀ x ∈ xs, c ∉ x) : split (join xs [c]) [c] = xs := by
  rw [join_jn]
  exact splitK_jn xs _ h0 h (by omega)
theorem splitK_mem {c : UInt8} : ∀ (f : Nat) (s : Str), s.length < f → ∀ x ∈ s, x ≠ c → ∃ p ∈ splitK [c] 0 (countFrom [c] f s) s, x ∈ p
  | 0, s, h => by omega
  | f + 1, s, h => by
    intro x hx hxc
    rcases first_split c s with hs | ⟨a, b, rfl, hs⟩
    · rw [countFrom_miss (index_miss hs)]
      exact ⟨s, by simp [splitK], hx⟩
    · rw [countFrom_hit (index_hit hs)]
      simp only [List.length_singleton, drop_hit]
      simp only [splitK, index_hit hs, neg_one_ne, Bool.false_eq_true, if_false, Int.toNat_natCast, Nat.add_zero, List.take_left', List.length_singleton, drop_hit]
      simp only [List.mem_append, List.mem_cons] at hx
      rcases hx with hx | hx | hx
      · exact ⟨a, by simp, hx⟩
      · exact absurd hx hxc
      · obtain ⟨p, hp, hm⟩ := splitK_mem f b (by simp at h; omega) x hx hxc
        exact ⟨p, by simp [hp], hm⟩
theorem split_mem {c : UInt8} {s : Str} {x : UInt8} (hx : x ∈ s) (hc : x ≠ c) : ∃ p ∈ split s [c], x ∈ p := splitK_mem _ s (by omega) x hx hc
theorem typeOf_text {t : Ty} (hk : 0 ≤ t.k ∧ t.k ≤ 3) (hl : 0 ≤ t.l ∧ t.l < 1000000000000000) (hs : 0 ≤ t.s ∧ t.s < 1000000000000000) (h0 : t.k = 0 → t.s = 0) : typeOf (typeText t) = (t, true) := by
  obtain ⟨k, l, s⟩ := t
  simp only at hk hl hs h0
  have h1 := atoi_itoa hl.1 hl.2
  have h2 := atoi_itoa hs.1 hs.2
  have hc : (44 : UInt8) ∉ itoa l := (itoa_digs hl.1).no (by decide)
  have main : ∀ (W : Str) (rest : Str), (40 : UInt8) ∉ W → cut (W ++ [40] ++ rest) [40] = (W, rest, true) := fun W rest h => by
    rw [List.append_assoc]; exact cut_hit h
  have hk' : k = 0 ∨ k = 1 ∨ k = 2 ∨ k = 3 := by omega
  rcases hk' with rfl | hk'
  · have := h0 rfl
    subst this
    have e : typeText ⟨0, l, 0⟩ = kindWords.getD 0 [] ++ [40] ++ (itoa l ++ [41]) := by simp [typeText]
    rw [e]
    unfold typeOf
    rw [main _ _ (by decide)]
    simp only [hasSuffix_end, trimSuffix_end, h1.1, h1.2]
    rw [if_neg (by decide), if_pos (by decide)]
    rfl
  · have hkn : k ≠ 0 := by omega
    have e : typeText ⟨k, l, s⟩ = kindWords.getD k.toNat [] ++ [40] ++ ((itoa l ++ 44 :: itoa s) ++ [41]) := by simp [typeText, hkn]
    have hW : (40 : UInt8) ∉ kindWords.getD k.toNat [] ∧ idxOf kindWords (kindWords.getD k.toNat []) = k := by
      rcases hk' with rfl | rfl | rfl <;> decide
    rw [e]
    unfold typeOf
    rw [main _ _ hW.1]
    simp only [hasSuffix_end, trimSuffix_end, hW.2, cut_hit hc, h1.1, h1.2, h2.1, h2.2]
    rw [if_neg (by simp; omega), if_neg hkn]
    rfl
end Go.Tx
end
section
set_option linter.unusedVariables false
set_option linter.unusedSimpArgs false
namespace Go.Tx
open Go.Lib
theorem takeWhile_digs : ∀ {w r : Str}, Digs w → (∀ c, r.head? = some c → isDig c = false) → (w ++ r).takeWhile isDig = w
  | [], [], _, _ => rfl
  | [], c :: r, _, h => by simp [List.takeWhile, h c rfl]
  | c :: w, r, hw, h => by
    simp only [List.cons_append, List.takeWhile, hw c (by simp)]
    rw [takeWhile_digs (fun x hx => hw x (by simp [hx])) h]
theorem runOf_eq {pre w r : Str} (hw : Digs w) (h : ∀ c, r.head? = some c → isDig c = false) : runOf (pre ++ (w ++ r)) pre.length = w.length := by
  unfold runOf
  rw [List.drop_left' rfl, takeWhile_digs hw h]
theorem digitsVal_eq : ∀ (l : Str) (a : Nat), Digs l → digitsVal (a : Int) l = (valD a l : Nat)
  | [], a, _ => by rw [valD_nil, digitsVal]
  | c :: l, a, h => by
    have hc := h c (by simp)
    simp only [isDig, decide_eq_true_eq] at hc
    have e : (a : Int) * 10 + ((c.toNat : Int) - 48) = ((a * 10 + dv c : Nat) : Int) := by unfold dv; omega
    rw [digitsVal, valD_cons, e]
    exact digitsVal_eq l _ (fun x hx => h x (by simp [hx]))
theorem valD_drop : ∀ (l r : Str), valD 0 (l.dropWhile (· == 48) ++ r) = valD 0 (l ++ r)
  | [], r => rfl
  | x :: l, r => by
    by_cases hx : x = 48
    · subst hx
      rw [show (48 :: l : Str).dropWhile (· == 48) = l.dropWhile (· == 48) by simp [List.dropWhile], List.cons_append, valD_cons]
      exact valD_drop l r
    · have : (x == 48) = false := by simpa using hx
      simp [List.dropWhile, this]
theorem decDigits_head {u : Nat} (h : 0 < u) : (decDigits u).head? ≠ some 48 := by
  induction u using Nat.strongRecOn with
  | _ u ih =>
    rw [decDigits]
    split
    · rename_i hu
      intro e
      simp only [List.head?_cons, Option.some.injEq] at e
      have := digit_toNat hu
      rw [e] at this
      simp at this
      omega
    · rename_i hu
      have h1 := ih (u / 10) (by omega) (by omega)
      cases hd : decDigits (u / 10) with
      | nil => exact absurd hd (decDigits_ne _)
      | cons c r => rw [hd] at h1; simpa using h1
theorem decDigits_zero : decDigits 0 = [48] := by rw [decDigits, dif_pos (by omega)]; rfl
theorem replicate_digs (n : Nat) : Digs (List.replicate n 48) := fun c hc => by
  rw [List.mem_replicate] at hc
  rw [hc.2]; decide
theorem valD_replicate : ∀ (n : Nat) (d : Str), valD 0 (List.replicate n 48 ++ d) = valD 0 d
  | 0, d => rfl
  | n + 1, d => by
    rw [List.replicate_succ, List.cons_append, valD_cons]
    exact valD_replicate n d
structure Parts (u k : Nat) (w r : Str) : Prop where
  dw : Digs w
  dr : Digs r
  ne : w ≠ []
  len : r.length = k
  all : w.length + r.length ≤ 16
  head : w.head? = some 48 → w.length = 1
  val : valD 0 (w ++ r) = u
  trim : (w.dropWhile (· == 48)).length + k ≤ 15
theorem parts_of {u k : Nat} (hu : u < 1000000000000000) (hk : k ≤ 15) :
    Parts u k ((padded (decDigits u) k).take ((padded (decDigits u) k).length - k)) ((padded (decDigits u) k).drop ((padded (decDigits u) k).length - k)) := by
  have hd := decDigits_digs u
  have hl : (decDigits u).length ≤ 15 := decDigits_len (by omega) (by omega)
  have hpos : 0 < (decDigits u).length := by
    have := decDigits_ne u
    cases h : decDigits u with
    | nil => exact absurd h this
    | cons => simp
  have hv := valD_decDigits u
  unfold padded
  split
  · rename_i hle
    obtain ⟨m, hm⟩ : ∃ m, k + 1 - (decDigits u).length = m + 1 := ⟨k - (decDigits u).length, by omega⟩
    have hlen : (List.replicate (k + 1 - (decDigits u).length) 48 ++ decDigits u : Str).length = k + 1 := by simp; omega
    have e1 : k + 1 - k = 1 := by omega
    rw [hlen, e1]
    have e2 : (List.replicate (k + 1 - (decDigits u).length) 48 ++ decDigits u : Str) = 48 :: (List.replicate m 48 ++ decDigits u) := by rw [hm]; rfl
    have e3 := valD_replicate (k + 1 - (decDigits u).length) (decDigits u)
    have e4 : Digs (List.replicate (k + 1 - (decDigits u).length) 48 ++ decDigits u : Str) := (replicate_digs _).append hd
    rw [e2] at hlen e3 e4 ⊢
    have hlen' : (List.replicate m 48 ++ decDigits u : Str).length = k := by simpa using hlen
    refine ⟨fun c hc => e4 c (List.mem_of_mem_take hc), fun c hc => e4 c (List.mem_of_mem_drop hc), by simp, by simpa using hlen', ?_, fun _ => by simp, ?_, ?_⟩
    · simp only [List.take_succ_cons, List.take_zero, List.drop_succ_cons, List.drop_zero, List.length_singleton]; omega
    · simp only [List.take_append_drop]; rw [e3]; exact hv
    · simp [List.dropWhile]; exact hk
  · rename_i hlt
    have hlt : k < (decDigits u).length := by omega
    refine ⟨fun c hc => hd c (List.mem_of_mem_take hc), fun c hc => hd c (List.mem_of_mem_drop hc), ?_, by simp; omega, by simp; omega, ?_, by rw [List.take_append_drop]; exact hv, ?_⟩
    · intro e
      have := congrArg List.length e
      simp at this
      omega
    · intro hh
      rcases Nat.eq_zero_or_pos u with rfl | hp
      · rw [decDigits_zero] at hlt ⊢
        have : k = 0 := by simpa using hlt
        subst this; rfl
      · exfalso
        have h1 := decDigits_head hp
        cases hdd : decDigits u with
        | nil => rw [hdd] at hpos; simp at hpos
        | cons c r =>
          rw [hdd] at hh h1 hlt
          obtain ⟨m, hm⟩ : ∃ m, (c :: r).length - k = m + 1 := ⟨(c :: r).length - k - 1, by omega⟩
          rw [hm] at hh
          exact h1 (by simpa using hh)
    · have h1 : (((decDigits u).take ((decDigits u).length - k)).dropWhile (· == 48)).length ≤ ((decDigits u).take ((decDigits u).length - k)).length := (List.dropWhile_suffix _).length_le
      simp only [List.length_take] at h1
      omega
theorem getD_append_head {pre w r : Str} (h : w ≠ []) : (pre ++ (w ++ r)).getD pre.length 0 = w.head h := by
  cases w with
  | nil => exact absurd rfl h
  | cons c w => simp
theorem parse_parts {u k : Nat} {w r sg : Str} (h : Parts u k w r) (hsg : sg = [] ∨ sg = [45]) :
    parseNum (sg ++ (w ++ (if k = 0 then [] else 46 :: r))) = (true, (if sg = [] then (u : Int) else -(u : Int)), (k : Int)) := by
  generalize htl : (if k = 0 then ([] : Str) else 46 :: r) = tl
  have hw0 : ∃ c w', w = c :: w' := by cases w with | nil => exact absurd rfl h.ne | cons c w' => exact ⟨c, w', rfl⟩
  have hm : minus (sg ++ (w ++ tl)) = sg.length := by
    obtain ⟨c, w', rfl⟩ := hw0
    rcases hsg with rfl | rfl
    · have hc := h.dw c (by simp)
      unfold minus
      have : c ≠ 45 := by rintro rfl; simp [isDig] at hc
      simp [this]
    · simp [minus]
  have hno : ∀ c, tl.head? = some c → isDig c = false := by
    intro c hc
    rw [← htl] at hc
    split at hc
    · cases hc
    · simp at hc; subst hc; decide
  have hrun : runOf (sg ++ (w ++ tl)) sg.length = w.length := runOf_eq h.dw hno
  have hlen : (sg ++ (w ++ tl)).length = sg.length + w.length + tl.length := by simp; omega
  have hsl : sg.length ≤ 1 := by rcases hsg with rfl | rfl <;> simp
  have htlen : tl.length = if k = 0 then 0 else k + 1 := by rw [← htl]; split <;> simp [h.len]
  have hwp : 0 < w.length := by obtain ⟨c, w', rfl⟩ := hw0; simp
  have hall := h.all
  have hrl := h.len
  have hnum : numOk (sg ++ (w ++ tl)) = true := by
    simp only [numOk, hm, hrun, hlen]
    rw [if_neg (by rw [htlen]; split <;> omega), if_neg (by omega), if_neg ?_]
    · split
      · rfl
      · rename_i hne
        have hk : k ≠ 0 := fun e => hne (by rw [htlen, if_pos e]; omega)
        have e1 : tl = 46 :: r := by rw [← htl, if_neg hk]
        have e2 : sg ++ (w ++ tl) = (sg ++ w ++ [46]) ++ (r ++ []) := by rw [e1]; simp
        have e3 : (sg ++ (w ++ tl)).getD (sg.length + w.length) 0 = 46 := by
          rw [e1]
          have : sg.length + w.length = (sg ++ w).length := by simp
          rw [this, ← List.append_assoc, List.getD_eq_getElem?_getD, List.getElem?_append_right (Nat.le_refl _)]
          simp
        have e4 : runOf (sg ++ (w ++ tl)) (sg.length + w.length + 1) = k := by
          rw [e2]
          have := runOf_eq (pre := sg ++ w ++ [46]) (w := r) (r := []) h.dr (by simp)
          simp only [List.length_append, List.length_singleton] at this
          rw [this, hrl]
        rw [if_neg (by rw [e3]; simp), e4, if_neg (by rw [htlen, if_neg hk]; omega)]
    · rintro ⟨h1, h2⟩
      have h3 : w.head? = some 48 := by
        obtain ⟨c, w', rfl⟩ := hw0
        rw [getD_append_head (by simp)] at h1
        simpa using h1
      have := h.head h3
      omega
  unfold parseNum
  rw [if_pos hnum, hm, List.drop_left' rfl]
  have hcut : cut (w ++ tl) [46] = (w, r, decide (k ≠ 0)) := by
    rw [← htl]
    split
    · rename_i hk
      subst hk
      have : r = [] := List.length_eq_zero_iff.1 hrl
      subst this
      rw [List.append_nil, cut_miss (h.dw.no (by decide))]
      rfl
    · rename_i hk
      rw [cut_hit (h.dw.no (by decide))]
      simp [hk]
  rw [hcut]
  have hd0 : Digs (w.dropWhile (· == 48)) := fun c hc => h.dw c ((List.dropWhile_suffix _).subset hc)
  have hd : Digs (w.dropWhile (· == 48) ++ r) := hd0.append h.dr
  have hv : digitsVal 0 (trimLeftB w 48 ++ r) = (u : Int) := by
    have := digitsVal_eq _ 0 hd
    rw [valD_drop, h.val] at this
    exact this
  have htrim := h.trim
  simp only
  rw [if_neg (by simp only [trimLeftB, List.length_append]; omega), hv, hrl]
  rcases hsg with rfl | rfl <;> simp
theorem parse_num {n s : Int} (h : numberOk n s = true) : parseNum (numText n s) = (true, n, s) := by
  have h' := h
  simp only [numberOk, decide_eq_true_eq] at h'
  obtain ⟨h1, h2, h3, h4⟩ := h'
  have hu : 0 ≤ max n (-n) := by omega
  have hp := parts_of (u := (max n (-n)).toNat) (k := s.toNat) (by omega) (by omega)
  have e : numText n s = (if n < 0 then [45] else []) ++ ((padded (decDigits (max n (-n)).toNat) s.toNat).take ((padded (decDigits (max n (-n)).toNat) s.toNat).length - s.toNat) ++ (if s.toNat = 0 then [] else 46 :: (padded (decDigits (max n (-n)).toNat) s.toNat).drop ((padded (decDigits (max n (-n)).toNat) s.toNat).length - s.toNat))) := by
    unfold numText
    rw [if_pos h, itoa_of hu]
    congr 1
    unfold pointed
    split
    · rename_i hs
      rw [hs]; simp
    · simp
  rw [e, parse_parts hp (by split <;> simp)]
  have : ((s.toNat : Nat) : Int) = s := Int.toNat_of_nonneg h3
  rw [this]
  by_cases hn : n < 0
  · simp only [if_pos hn]
    have : (((max n (-n)).toNat : Nat) : Int) = -n := by rw [Int.toNat_of_nonneg hu]; omega
    simp [this]
  · simp only [if_neg hn]
    have : (((max n (-n)).toNat : Nat) : Int) = n := by rw [Int.toNat_of_nonneg hu]; omega
    simp [this]
theorem numText_mem {n s : Int} {c : UInt8} (h : c ∈ numText n s) : isDig c = true ∨ c = 45 ∨ c = 46 := by
  unfold numText at h
  split at h
  · rename_i hok
    simp only [numberOk, decide_eq_true_eq] at hok
    have hu : 0 ≤ max n (-n) := by omega
    have hd : Digs (padded (itoa (max n (-n))) s.toNat) := by
      unfold padded
      split
      · exact (replicate_digs _).append (itoa_digs hu)
      · exact itoa_digs hu
    rcases List.mem_append.1 h with h | h
    · split at h
      · simp at h; exact .inr (.inl h)
      · cases h
    · unfold pointed at h
      split at h
      · exact .inl (hd c h)
      · simp only [List.mem_append, List.mem_singleton] at h
        rcases h with (h | h) | h
        · exact .inl (hd c (List.mem_of_mem_take h))
        · exact .inr (.inr h)
        · exact .inl (hd c (List.mem_of_mem_drop h))
  · cases h
theorem most_le {l : Int} (h : l ≤ 15) : most l ≤ 999999999999999 := by
  unfold most
  have : (10 : Nat) ^ l.toNat ≤ 10 ^ 15 := Nat.pow_le_pow_right (by omega) (by omega)
  have h2 : ((10 : Nat) ^ l.toNat : Nat) = (10 : Int) ^ l.toNat := by simp
  omega
theorem type_ok {t : Ty} (h : typeErr t = 0) : 0 ≤ t.k ∧ t.k ≤ 4 ∧ (1 ≤ t.k → t.k ≤ 3 → t.l ≤ 15) ∧ (0 ≤ t.s ∧ t.s ≤ (if 1 ≤ t.k ∧ t.k ≤ 3 then t.l else 0)) := by
  unfold typeErr at h
  by_cases h1 : ¬ (0 ≤ t.k ∧ t.k ≤ 4)
  · rw [if_pos h1] at h; cases h
  · rw [if_neg h1] at h
    by_cases h2 : lenOk t = false
    · rw [if_pos h2] at h; cases h
    · rw [if_neg h2] at h
      by_cases h3 : 0 ≤ t.s ∧ t.s ≤ (if 1 ≤ t.k ∧ t.k ≤ 3 then t.l else 0)
      · refine ⟨by omega, by omega, fun h13 h33 => ?_, h3⟩
        simp only [Bool.not_eq_false] at h2
        unfold lenOk at h2
        rw [if_neg (by omega)] at h2
        split at h2
        · simp at h2; omega
        · rw [if_pos (by omega)] at h2
          simp at h2; omega
      · rw [if_neg h3] at h; cases h
theorem value_read {t : Ty} {n : Int} {v : Str} (h : valueErr t n v = 0) : valueOf t (valueText t n v) = (n, v, true) := by
  unfold valueErr at h
  split at h
  · contradiction
  · rename_i ht
    have ht : typeErr t = 0 := by simpa using ht
    split at h
    · cases h
    · rename_i hk4
      split at h
      · cases h
      · rename_i hnv
        unfold valueOf valueText
        by_cases hk : t.k = 0
        · have hn : n = 0 := by
            by_cases hn : n = 0
            · exact hn
            · exact absurd (.inl ⟨hk, hn⟩) hnv
          subst hn
          simp only [hk, ne_eq, not_true, if_false]
          cases hsh : isShown v with
          | true =>
            simp only [if_true]
            have hr : replaceAll v [39] [39, 39] = dbl v := replaceAll_one (by simp)
            have h0 : hasPrefix ([39] ++ dbl v ++ [39]) [88] = false := by simp [hasPrefix, List.isPrefixOf]
            rw [hr]
            unfold trimPrefix
            rw [h0]
            simp only [Bool.false_eq_true, if_false]
            have e1 : ([39] ++ dbl v ++ [39] : Str).length = (dbl v).length + 2 := by simp
            rw [e1, if_neg ?_]
            · have e2 : (([39] ++ dbl v ++ [39] : Str).drop 1).take ((dbl v).length + 2 - 2) = dbl v := by simp
              rw [e2, ← hr, undbl]
            · simp
          | false =>
            simp only [Bool.false_eq_true, if_false]
            have h0 : hasPrefix ([88, 39] ++ hexText v ++ [39]) [88] = true := by simp [hasPrefix, List.isPrefixOf]
            have h1 : trimPrefix ([88, 39] ++ hexText v ++ [39]) [88] = [39] ++ hexText v ++ [39] := by
              unfold trimPrefix; rw [h0, if_pos rfl]; simp
            rw [h1, h0]
            have e1 : ([39] ++ hexText v ++ [39] : Str).length = (hexText v).length + 2 := by simp
            rw [e1, if_neg ?_]
            · have e2 : (([39] ++ hexText v ++ [39] : Str).drop 1).take ((hexText v).length + 2 - 2) = hexText v := by simp
              rw [e2, bytesOf_hex]
              simp
            · simp
        · have hv : v = [] := by
            cases v with
            | nil => rfl
            | cons c v => exact absurd (.inr ⟨hk, by simp⟩) hnv
          subst hv
          rw [if_neg hk] at h
          have hb : -most t.l ≤ n ∧ n ≤ most t.l := by
            by_cases hb : -most t.l ≤ n ∧ n ≤ most t.l
            · exact hb
            · rw [if_neg hb] at h; cases h
          have hty : 1 ≤ t.k ∧ t.k ≤ 3 ∧ t.l ≤ 15 ∧ 0 ≤ t.s ∧ t.s ≤ t.l := by
            obtain ⟨q1, q2, q3, q4⟩ := type_ok ht
            have h13 : 1 ≤ t.k ∧ t.k ≤ 3 := by omega
            rw [if_pos h13] at q4
            exact ⟨h13.1, h13.2, q3 h13.1 h13.2, q4.1, q4.2⟩
          have hmost := most_le hty.2.2.1
          have hnum : numberOk n t.s = true := by
            simp only [numberOk, decide_eq_true_eq]
            omega
          simp only [hk, ne_eq, not_false_eq_true, if_true, parse_num hnum]
          simp
end Go.Tx
end
section
set_option linter.unusedVariables false
set_option linter.unusedSimpArgs false
namespace Go.Tx
open Go.Lib
theorem name_no {s : Str} (h : isName s = true) {c : UInt8} (hc : nameCh c = false) : c ∉ s := by
  intro hm
  match s, h with
  | x :: r, h =>
    simp only [isName, Bool.and_eq_true, List.all_eq_true] at h
    rcases List.mem_cons.1 hm with rfl | hm
    · have : nameCh c = true := by simp [nameCh, h.1.1]
      rw [hc] at this; cases this
    · have := h.1.2 c hm
      rw [hc] at this; cases this
theorem name_len {s : Str} (h : isName s = true) : 1 ≤ s.length ∧ s.length ≤ 10 := by
  match s, h with
  | x :: r, h =>
    simp only [isName, Bool.and_eq_true, decide_eq_true_eq] at h
    simp only [List.length_cons]; omega
theorem itoa_mem {n : Int} {c : UInt8} (h : c ∈ itoa n) : isDig c = true ∨ c = 45 := by
  unfold itoa at h
  split at h
  · rcases List.mem_cons.1 h with h | h
    · exact .inr h
    · exact .inl (decDigits_digs _ c h)
  · exact .inl (decDigits_digs _ c h)
theorem itoa_no {n : Int} {c : UInt8} (hd : isDig c = false) (hm : c ≠ 45) : c ∉ itoa n := fun h => by
  rcases itoa_mem h with h | h
  · rw [hd] at h; cases h
  · exact hm h
theorem word_up : ∀ k, k < 4 → ∀ c ∈ kindWords.getD k [], isUp c = true := by decide
theorem kindWord_up {k : Nat} {c : UInt8} (h : c ∈ kindWords.getD k []) : isUp c = true := by
  by_cases hk : k < 4
  · exact word_up k hk c h
  · rw [List.getD_eq_getElem?_getD, List.getElem?_eq_none (show kindWords.length ≤ k by show 4 ≤ k; omega)] at h
    cases h
theorem typeText_no {t : Ty} {c : UInt8} (hu : isUp c = false) (hd : isDig c = false) (h5 : c ≠ 45) (h0 : c ≠ 40) (h1 : c ≠ 41) (h4 : c ≠ 44) : c ∉ typeText t := by
  intro h
  unfold typeText at h
  simp only [List.mem_append, List.mem_singleton] at h
  rcases h with (((h | h) | h) | h) | h
  · rw [kindWord_up h] at hu; cases hu
  · exact h0 h
  · exact itoa_no hd h5 h
  · split at h
    · cases h
    · simp only [List.mem_append, List.mem_singleton] at h
      rcases h with h | h
      · exact h4 h
      · exact itoa_no hd h5 h
  · exact h1 h
theorem valueText_no10 (t : Ty) (n : Int) (v : Str) : (10 : UInt8) ∉ valueText t n v := by
  intro h
  unfold valueText at h
  split at h
  · rcases numText_mem h with h | h | h
    · exact absurd h (by decide)
    · exact absurd h (by decide)
    · exact absurd h (by decide)
  · split at h
    · rename_i hs
      rw [replaceAll_one (by decide)] at h
      simp only [List.mem_append, List.mem_singleton] at h
      rcases h with (h | h) | h
      · exact absurd h (by decide)
      · rcases mem_subst h with h | h
        · have := (List.all_eq_true.1 hs) _ h
          exact absurd this (by decide)
        · exact absurd h (by decide)
      · exact absurd h (by decide)
    · simp only [List.mem_append, List.mem_singleton] at h
      rcases h with (h | h) | h
      · exact absurd h (by decide)
      · have := hexText_mem h
        exact absurd this (by decide)
      · exact absurd h (by decide)
theorem opdLine_no10 {o : Opd} (hn : isName o.name = true) (hb : o.kind = 1 ∨ o.kind = 2 → isName o.base = true) : (10 : UInt8) ∉ opdLine o := by
  have n1 : (10 : UInt8) ∉ o.name := name_no hn (by decide)
  have n2 : (10 : UInt8) ∉ typeText o.ty := typeText_no (by decide) (by decide) (by decide) (by decide) (by decide) (by decide)
  have n3 := valueText_no10 o.ty o.n o.v
  have n4 : (10 : UInt8) ∉ itoa o.off := itoa_no (by decide) (by decide)
  have n5 : (10 : UInt8) ∉ itoa o.tgt := itoa_no (by decide) (by decide)
  unfold opdLine
  split
  · simp only [List.mem_append, n1, n2, n3, or_false, false_or]; decide
  · split
    · have n6 : (10 : UInt8) ∉ o.base := name_no (hb (.inl ‹_›)) (by decide)
      simp only [List.mem_append, n1, n2, n4, n6, or_false, false_or]; decide
    · split
      · have n6 : (10 : UInt8) ∉ o.base := name_no (hb (.inr ‹_›)) (by decide)
        simp only [List.mem_append, n1, n2, n4, n6, or_false, false_or]; decide
      · split
        · simp only [List.mem_append, n1, or_false, false_or]; decide
        · split
          · simp only [List.mem_append, n1, n2, n3, or_false, false_or]; decide
          · simp only [List.mem_append, n1, n5, or_false, false_or]; decide
structure OpdOk (o : Opd) : Prop where
  name : isName o.name = true
  k0 : 0 ≤ o.kind
  k5 : o.kind ≤ 5
  extra : hasExtra o = false
  ty : isData o.kind = true → typeErr o.ty = 0 ∧ o.ty.k ≠ 4
  val : o.kind = 0 ∨ o.kind = 4 → valueErr o.ty o.n o.v = 0
  base : o.kind = 1 ∨ o.kind = 2 → isName o.base = true ∧ 0 ≤ o.off ∧ o.off < 1000000000000000
  tgt : o.kind = 5 → 0 ≤ o.tgt ∧ o.tgt < 1000000000000000
theorem type_len {t : Ty} (h : typeErr t = 0) (h4 : t.k ≠ 4) : (0 ≤ t.k ∧ t.k ≤ 3) ∧ (0 ≤ t.l ∧ t.l < 1000000000000000) ∧ (0 ≤ t.s ∧ t.s < 1000000000000000) ∧ (t.k = 0 → t.s = 0) := by
  unfold typeErr at h
  by_cases h1 : ¬ (0 ≤ t.k ∧ t.k ≤ 4)
  · rw [if_pos h1] at h; cases h
  · rw [if_neg h1] at h
    by_cases h2 : lenOk t = false
    · rw [if_pos h2] at h; cases h
    · rw [if_neg h2] at h
      by_cases h3 : 0 ≤ t.s ∧ t.s ≤ (if 1 ≤ t.k ∧ t.k ≤ 3 then t.l else 0)
      · simp only [Bool.not_eq_false] at h2
        have hk : t.k = 0 ∨ t.k = 1 ∨ t.k = 2 ∨ t.k = 3 := by omega
        rcases hk with hk | hk | hk | hk <;> simp [lenOk, hk] at h2 h3 <;> omega
      · rw [if_neg h3] at h; cases h
theorem ty_eq {t : Ty} (h : tyZero t = true) : t = ty0 := by
  obtain ⟨k, l, s⟩ := t
  simp only [tyZero, decide_eq_true_eq] at h
  obtain ⟨rfl, rfl, rfl⟩ := h
  rfl
theorem declared_dd {K name T W inner : Str} (hK : K = [68, 68] ∨ K = [67, 79, 78]) (hn : (32 : UInt8) ∉ name) (hT : (32 : UInt8) ∉ T) (hW : (40 : UInt8) ∉ W) {t : Ty} (ht : typeOf T = (t, true)) :
    declared (K ++ 32 :: (name ++ 32 :: (T ++ 32 :: (W ++ 40 :: (inner ++ [41]))))) =
      if W = [73, 78, 73, 84] then ({ opd0 with name := name, ty := t, kind := if K = [67, 79, 78] then 4 else 0, n := (valueOf t inner).1, v := (valueOf t inner).2.1 }, (valueOf t inner).2.2)
      else ({ opd0 with name := name, ty := t, base := (cut inner [44]).1, off := atoiN (cut inner [44]).2.1, kind := if W = [68, 69, 70] then 1 else if W = [66, 65, 83] then 2 else 0 },
        natOk (cut inner [44]).2.1 && decide (K = [68, 68]) && decide ((if W = [68, 69, 70] then (1 : Int) else if W = [66, 65, 83] then 2 else 0) ≠ 0) && isName (cut inner [44]).1) := by
  have hKn : (32 : UInt8) ∉ K := by rcases hK with rfl | rfl <;> decide
  have k1 : K ≠ [80, 84, 82] := by rcases hK with rfl | rfl <;> decide
  have k2 : K ≠ [76, 65, 66, 69, 76] := by rcases hK with rfl | rfl <;> decide
  have k3 : ¬ (K ≠ [68, 68] ∧ K ≠ [67, 79, 78]) := by rcases hK with rfl | rfl <;> simp
  unfold declared
  simp only [cut_hit hKn, cut_hit hn, cut_hit hT, cut_hit hW, trimSuffix_end, hasSuffix_end, ht]
  rw [if_neg k1, if_neg k2, if_neg k3, if_neg (by simp)]
theorem read_opd {o : Opd} (h : OpdOk o) : readLine (opdLine o) = ({ ln0 with part := 1, opd := o }, true) := by
  have key : ∃ body, opdLine o = sDCLsp ++ body ∧ declared body = (o, true) := by
    have n1 : (32 : UInt8) ∉ o.name := name_no h.name (by decide)
    have n2 : (32 : UInt8) ∉ typeText o.ty := typeText_no (by decide) (by decide) (by decide) (by decide) (by decide) (by decide)
    have hx := h.extra
    have hv := h.val
    have hb := h.base
    have htg := h.tgt
    have hk : o.kind = 0 ∨ o.kind = 1 ∨ o.kind = 2 ∨ o.kind = 3 ∨ o.kind = 4 ∨ o.kind = 5 := by have := h.k0; have := h.k5; omega
    have hty : isData o.kind = true → typeOf (typeText o.ty) = (o.ty, true) := fun hd => by
      obtain ⟨t1, t2⟩ := h.ty hd
      obtain ⟨l1, l2, l3, l4⟩ := type_len t1 t2
      exact typeOf_text l1 l2 l3 l4
    obtain ⟨name, kind, ty, n, v, base, off, tgt⟩ := o
    simp only at *
    rcases hk with rfl | rfl | rfl | rfl | rfl | rfl
    · simp [hasExtra] at hx
      obtain ⟨⟨rfl, rfl⟩, rfl⟩ := hx
      refine ⟨[68, 68] ++ 32 :: (name ++ 32 :: (typeText ty ++ 32 :: ([73, 78, 73, 84] ++ 40 :: (valueText ty n v ++ [41])))), by simp [opdLine, sDCLsp], ?_⟩
      rw [declared_dd (.inl rfl) n1 n2 (by decide) (hty rfl), if_pos rfl, value_read (hv (.inl rfl))]
      rfl
    · simp [hasExtra] at hx
      obtain ⟨⟨rfl, rfl⟩, rfl⟩ := hx
      obtain ⟨b1, b2, b3⟩ := hb (.inl rfl)
      refine ⟨[68, 68] ++ 32 :: (name ++ 32 :: (typeText ty ++ 32 :: ([68, 69, 70] ++ 40 :: ((base ++ 44 :: itoa off) ++ [41])))), by simp [opdLine, sDCLsp], ?_⟩
      rw [declared_dd (.inl rfl) n1 n2 (by decide) (hty rfl), if_neg (by decide), cut_hit (name_no b1 (by decide))]
      simp only [(atoi_itoa b2 b3).1, (atoi_itoa b2 b3).2, b1]
      rfl
    · simp [hasExtra] at hx
      obtain ⟨⟨rfl, rfl⟩, rfl⟩ := hx
      obtain ⟨b1, b2, b3⟩ := hb (.inr rfl)
      refine ⟨[68, 68] ++ 32 :: (name ++ 32 :: (typeText ty ++ 32 :: ([66, 65, 83] ++ 40 :: ((base ++ 44 :: itoa off) ++ [41])))), by simp [opdLine, sDCLsp], ?_⟩
      rw [declared_dd (.inl rfl) n1 n2 (by decide) (hty rfl), if_neg (by decide), cut_hit (name_no b1 (by decide))]
      simp only [(atoi_itoa b2 b3).1, (atoi_itoa b2 b3).2, b1]
      rfl
    · simp [hasExtra] at hx
      obtain ⟨⟨⟨hz, rfl, rfl⟩, rfl, rfl⟩, rfl⟩ := hx
      have hz := ty_eq hz
      subst hz
      refine ⟨[80, 84, 82] ++ 32 :: name, by simp [opdLine, sDCLsp], ?_⟩
      unfold declared
      simp only [cut_hit (show (32 : UInt8) ∉ ([80, 84, 82] : Str) by decide), cut_miss n1]
      rfl
    · simp [hasExtra] at hx
      obtain ⟨⟨rfl, rfl⟩, rfl⟩ := hx
      refine ⟨[67, 79, 78] ++ 32 :: (name ++ 32 :: (typeText ty ++ 32 :: ([73, 78, 73, 84] ++ 40 :: (valueText ty n v ++ [41])))), by simp [opdLine, sDCLsp], ?_⟩
      rw [declared_dd (.inr rfl) n1 n2 (by decide) (hty rfl), if_pos rfl, value_read (hv (.inr rfl))]
      rfl
    · simp [hasExtra] at hx
      obtain ⟨⟨hz, rfl, rfl⟩, rfl, rfl⟩ := hx
      have hz := ty_eq hz
      subst hz
      obtain ⟨b2, b3⟩ := htg rfl
      refine ⟨[76, 65, 66, 69, 76] ++ 32 :: (name ++ 32 :: itoa tgt), by simp [opdLine, sDCLsp], ?_⟩
      unfold declared
      simp only [cut_hit (show (32 : UInt8) ∉ ([76, 65, 66, 69, 76] : Str) by decide), cut_hit n1, (atoi_itoa b2 b3).1, (atoi_itoa b2 b3).2]
      rfl
  obtain ⟨body, e1, e2⟩ := key
  have hp : hasPrefix (opdLine o) sDCLsp = true := by rw [e1]; simp [hasPrefix, sDCLsp]
  have ht : trimPrefix (opdLine o) sDCLsp = body := by
    unfold trimPrefix
    rw [hp, if_pos rfl, e1]; simp
  unfold readLine
  rw [hp, if_pos rfl, ht, e2]
  simp only [h.name, decide_true, Bool.and_self]
theorem not_dcl {s : Str} (h : s.take 3 ≠ [68, 67, 76]) : hasPrefix s sDCLsp = false := by
  match s with
  | [] => rfl
  | [a] => simp [hasPrefix, sDCLsp, List.isPrefixOf]
  | [a, b] => simp [hasPrefix, sDCLsp, List.isPrefixOf]
  | a :: b :: c :: r =>
    simp at h
    simp only [hasPrefix, sDCLsp, List.isPrefixOf]
    rw [Bool.eq_false_iff]
    intro hh
    simp only [Bool.and_eq_true, beq_iff_eq] at hh
    exact h hh.1.symm hh.2.1.symm hh.2.2.1.symm
theorem op_facts : ∀ k, k < 19 → (32 : UInt8) ∉ opNames.getD k [] ∧ opNames.getD k [] ≠ sMON ∧ idxOf opNames (opNames.getD k []) = (k : Int) ∧ (opNames.getD k []).take 3 ≠ [68, 67, 76] ∧ 3 ≤ (opNames.getD k []).length ∧ (10 : UInt8) ∉ opNames.getD k [] ∧
    (opNames.getD k []).getLast? ≠ some 59 := by decide
theorem read_ins {op : Int} {args : List Str} (h0 : 0 ≤ op) (h1 : op < 19) (ha : ∀ a ∈ args, isName a = true) : readLine (insLine op args) = ({ ln0 with part := 2, op := op, args := args }, true) := by
  obtain ⟨f1, f2, f3, f4, f5, f6, f7⟩ := op_facts op.toNat (by omega)
  have hop : ((op.toNat : Nat) : Int) = op := by omega
  rw [hop] at f3
  generalize hW : opNames.getD op.toNat [] = W at *
  have hall : args.all isName = true := List.all_eq_true.2 ha
  unfold insLine
  rw [hW]
  by_cases he : args = []
  · subst he
    rw [if_pos rfl]
    unfold readLine
    rw [not_dcl f4]
    simp only [Bool.false_eq_true, if_false, cut_miss f1]
    rw [if_neg f2, f3]
    simp [h0]
  · rw [if_neg he]
    have e : W ++ [32] ++ join args [44] = W ++ 32 :: join args [44] := by simp
    have ht : (W ++ 32 :: join args [44]).take 3 = W.take 3 := by rw [List.take_append_of_le_length f5]
    rw [e]
    unfold readLine
    rw [not_dcl (by rw [ht]; exact f4)]
    simp only [Bool.false_eq_true, if_false, cut_hit f1]
    rw [if_neg f2, f3, split_join he (fun a h => name_no (ha a h) (by decide))]
    simp [h0, hall]
theorem read_mon {m : Mon} (h1 : 0 ≤ m.fr ∧ m.fr < 1000000000000000) (h2 : 0 ≤ m.to ∧ m.to < 1000000000000000) (h3 : 0 ≤ m.ex ∧ m.ex < 1000000000000000) (h4 : 0 ≤ m.hd ∧ m.hd < 1000000000000000) :
    readLine (monLine m) = ({ ln0 with part := 3, mon := m }, true) := by
  have g1 := atoi_itoa h1.1 h1.2
  have g2 := atoi_itoa h2.1 h2.2
  have g3 := atoi_itoa h3.1 h3.2
  have g4 := atoi_itoa h4.1 h4.2
  have e : monLine m = sMON ++ 32 :: join [itoa m.fr, itoa m.to, itoa m.ex, itoa m.hd] [32] := by
    rw [join_jn]
    simp [monLine, jn]
  rw [e]
  unfold readLine
  rw [not_dcl (by simp [sMON])]
  simp only [Bool.false_eq_true, if_false, cut_hit (show (32 : UInt8) ∉ sMON by decide), if_true]
  rw [split_join (by simp) (fun a h => ?_)]
  · simp [g1, g2, g3, g4]
  · simp only [List.mem_cons, List.not_mem_nil, or_false] at h
    rcases h with rfl | rfl | rfl | rfl <;> exact itoa_no (by decide) (by decide)
theorem cut_or (s : Str) (c : UInt8) : (c ∉ s ∧ cut s [c] = (s, [], false)) ∨ ∃ a b, s = a ++ c :: b ∧ c ∉ a ∧ cut s [c] = (a, b, true) := by
  rcases first_split c s with h | ⟨a, b, rfl, h⟩
  · exact .inl ⟨h, cut_miss h⟩
  · exact .inr ⟨a, b, rfl, h, cut_hit h⟩
theorem idxOf_mem : ∀ {l : List Str} {s : Str}, 0 ≤ idxOf l s → s ∈ l
  | [], s, h => by simp [idxOf] at h
  | x :: r, s, h => by
    unfold idxOf at h
    by_cases hx : x = s
    · subst hx; simp
    · rw [if_neg hx] at h
      by_cases hn : idxOf r s < 0
      · rw [if_pos hn] at h; omega
      · exact List.mem_cons_of_mem _ (idxOf_mem (by omega))
theorem op_mem : ∀ w ∈ opNames, (10 : UInt8) ∉ w ∧ w.head? ≠ some 97 := by decide
theorem declared_base {s : Str} (h : (declared s).2 = true) : (declared s).1.kind = 1 ∨ (declared s).1.kind = 2 → isName (declared s).1.base = true := by
  intro hk
  unfold declared at h hk ⊢
  simp only at h hk ⊢
  split at h
  · rename_i h1
    rw [if_pos h1] at hk
    simp at hk
  · rename_i h1
    rw [if_neg h1] at hk
    rw [if_neg h1]
    split at h
    · rename_i h2
      rw [if_pos h2] at hk
      simp at hk
    · rename_i h2
      rw [if_neg h2] at hk
      rw [if_neg h2]
      split at h
      · cases h
      · rename_i h3
        rw [if_neg h3] at hk
        rw [if_neg h3]
        split at h
        · cases h
        · rename_i h4
          rw [if_neg h4] at hk
          rw [if_neg h4]
          split at h
          · rename_i h5
            rw [if_pos h5] at hk
            simp only at hk
            split at hk <;> omega
          · rename_i h5
            rw [if_neg h5]
            simp only [Bool.and_eq_true] at h
            exact h.2
theorem read_no10 {s : Str} (h : (10 : UInt8) ∈ s) : (readLine s).2 = false := by
  unfold readLine
  split
  · simp only
    cases hf : ((declared (trimPrefix s sDCLsp)).2 && isName (declared (trimPrefix s sDCLsp)).1.name && decide (opdLine (declared (trimPrefix s sDCLsp)).1 = s)) with
    | false => rfl
    | true =>
      simp only [Bool.and_eq_true, decide_eq_true_eq] at hf
      obtain ⟨⟨h1, h2⟩, h3⟩ := hf
      exact absurd h (by rw [← h3]; exact opdLine_no10 h2 (declared_base h1))
  · simp only
    rcases cut_or s 32 with ⟨hn, e⟩ | ⟨a, b, rfl, hn, e⟩
    · rw [e]
      simp only
      split
      · rename_i hs
        rw [hs] at h
        exact absurd h (by decide)
      · have : ¬ 0 ≤ idxOf opNames s := fun h0 => (op_mem s (idxOf_mem h0)).1 h
        simp [this]
    · rw [e]
      simp only
      by_cases ha : (10 : UInt8) ∈ a
      · split
        · rename_i hs
          rw [hs] at ha
          exact absurd ha (by decide)
        · have : ¬ 0 ≤ idxOf opNames a := fun h0 => (op_mem a (idxOf_mem h0)).1 ha
          simp [this]
      · have hb : (10 : UInt8) ∈ b := by
          rcases List.mem_append.1 h with h | h
          · exact absurd h ha
          · rcases List.mem_cons.1 h with h | h
            · exact absurd h (by decide)
            · exact h
        split
        · obtain ⟨p, hp, hm⟩ := split_mem hb (c := 32) (by decide)
          have hf : (split b [32]).all natOk = false := List.all_eq_false.2 ⟨p, hp, fun hok => (natOk_digs hok).1.no (c := 10) (by decide) hm⟩
          rw [if_pos (.inl hf)]
        · obtain ⟨p, hp, hm⟩ := split_mem hb (c := 44) (by decide)
          have : (split b [44]).all isName = false := List.all_eq_false.2 ⟨p, hp, fun hok => name_no hok (c := 10) (by decide) hm⟩
          simp [this]
theorem read_a (s : Str) : (readLine (97 :: s)).2 = false := by
  unfold readLine
  rw [not_dcl (by simp)]
  simp only [Bool.false_eq_true, if_false]
  have key : ∀ w r : Str, w = 97 :: r → w ≠ sMON ∧ ¬ 0 ≤ idxOf opNames w := by
    rintro w r rfl
    exact ⟨by simp [sMON], fun h0 => (op_mem _ (idxOf_mem h0)).2 rfl⟩
  rcases cut_or (97 :: s) 32 with ⟨hn, e⟩ | ⟨a, b, hs, hn, e⟩
  · obtain ⟨k1, k2⟩ := key _ s rfl
    rw [e]
    simp only
    rw [if_neg k1]
    simp [k2]
  · have : ∃ r, a = 97 :: r := by
      cases a with
      | nil => simp at hs
      | cons x a => simp at hs; exact ⟨a, by rw [hs.1]⟩
    obtain ⟨r, hr⟩ := this
    obtain ⟨k1, k2⟩ := key a r hr
    rw [e]
    simp only
    rw [if_neg k1]
    simp [k2]
end Go.Tx
end
section
set_option linter.unusedVariables false
set_option linter.unusedSimpArgs false
namespace Go.Tx
open Go.Lib
def scan : Nat → Nat → Int → Str → Option Nat × List Ln
  | 0, _, _, _ => (none, [])
  | f + 1, a, part, s =>
    if s = [] then (none, [])
    else if (readLine (cut s sEnd).1).2 = false ∨ hasPrefix (s.drop (cut s sEnd).1.length) sEnd = false ∨ (readLine (cut s sEnd).1).1.part < part then (some a, [])
    else ((scan f (a + (cut s sEnd).1.length + 2) (readLine (cut s sEnd).1).1.part (s.drop ((cut s sEnd).1.length + 2))).1,
      { (readLine (cut s sEnd).1).1 with at_ := (a : Int) } :: (scan f (a + (cut s sEnd).1.length + 2) (readLine (cut s sEnd).1).1.part (s.drop ((cut s sEnd).1.length + 2))).2)
def flat (L : List Str) : Str := L.flatMap (· ++ sEnd)
theorem flat_nil : flat [] = [] := rfl
theorem flat_cons (l : Str) (L : List Str) : flat (l :: L) = l ++ 59 :: 10 :: flat L := by
  simp [flat, sEnd]
theorem flat_append (L M : List Str) : flat (L ++ M) = flat L ++ flat M := by simp [flat]
def ats : Nat → List Str → List Ln → List Ln
  | a, l :: L, x :: X => { x with at_ := (a : Int) } :: ats (a + l.length + 2) L X
  | _, _, _ => []
inductive Good : Int → List Str → List Ln → Int → Prop
  | nil (p : Int) : Good p [] [] p
  | cons {p q : Int} {l : Str} {x : Ln} {L : List Str} {X : List Ln} (h1 : (10 : UInt8) ∉ l) (h2 : readLine l = (x, true)) (h3 : p ≤ x.part) (t : Good x.part L X q) : Good p (l :: L) (x :: X) q
theorem Good.append {p q r : Int} {L M : List Str} {X Y : List Ln} (h : Good p L X q) (k : Good q M Y r) : Good p (L ++ M) (X ++ Y) r := by
  induction h with
  | nil p => exact k
  | cons h1 h2 h3 t ih => exact .cons h1 h2 h3 (ih k)
theorem Good.le {p q : Int} {L : List Str} {X : List Ln} (h : Good p L X q) : p ≤ q := by
  induction h with
  | nil p => omega
  | cons h1 h2 h3 t ih => omega
theorem Good.split {L1 L2 : List Str} : ∀ {p q : Int} {X : List Ln}, Good p (L1 ++ L2) X q → ∃ X1 X2 r, X = X1 ++ X2 ∧ Good p L1 X1 r ∧ Good r L2 X2 q := by
  induction L1 with
  | nil => intro p q X h; exact ⟨[], X, p, rfl, .nil p, h⟩
  | cons l L1 ih =>
    intro p q X h
    cases h with
    | cons h1 h2 h3 t =>
      obtain ⟨X1, X2, r, rfl, g1, g2⟩ := ih t
      exact ⟨_ :: X1, X2, r, rfl, .cons h1 h2 h3 g1, g2⟩
theorem Good.no10 {p q : Int} {L : List Str} {X : List Ln} (h : Good p L X q) : ∀ l ∈ L, (10 : UInt8) ∉ l := by
  induction h with
  | nil p => intro l h; cases h
  | cons h1 h2 h3 t ih =>
    intro l hl
    rcases List.mem_cons.1 hl with rfl | hl
    · exact h1
    · exact ih l hl
theorem scan_good {p q : Int} {L : List Str} {X : List Ln} (h : Good p L X q) : ∀ (f a : Nat) (rest : Str), (flat L ++ rest).length ≤ f →
    ∃ f', rest.length ≤ f' ∧ scan f a p (flat L ++ rest) = ((scan f' (a + (flat L).length) q rest).1, ats a L X ++ (scan f' (a + (flat L).length) q rest).2) := by
  induction h with
  | nil p => intro f a rest hf; exact ⟨f, hf, rfl⟩
  | @cons p q l x L X h1 h2 h3 t ih =>
    intro f a rest hf
    rw [flat_cons] at hf ⊢
    cases f with
    | zero => simp at hf
    | succ f =>
      have e : l ++ 59 :: 10 :: flat L ++ rest = l ++ 59 :: 10 :: (flat L ++ rest) := by simp
      rw [e]
      simp only [List.length_append, List.length_cons] at hf
      obtain ⟨f', hf', ih⟩ := ih f (a + l.length + 2) rest (by simp only [List.length_append]; omega)
      have hlen : a + l.length + 2 + (flat L).length = a + (l ++ 59 :: 10 :: flat L).length := by simp only [List.length_append, List.length_cons]; omega
      rw [hlen] at ih
      refine ⟨f', hf', ?_⟩
      have d1 : (l ++ 59 :: 10 :: (flat L ++ rest)).drop l.length = 59 :: 10 :: (flat L ++ rest) := by simp
      have d2 : (l ++ 59 :: 10 :: (flat L ++ rest)).drop (l.length + 2) = flat L ++ rest := drop_hit2 _ _ _ _
      rw [scan, if_neg (by simp), cutE_hit h1]
      simp only [h2, d1, d2]
      rw [if_neg ?_, ih]
      · rfl
      · simp only [Bool.true_eq_false, false_or, not_or]
        exact ⟨by simp [hasPrefix, sEnd, List.isPrefixOf], by omega⟩
theorem scan_bad {f a : Nat} {p : Int} {s : Str} (hf : s.length ≤ f) (hs : s ≠ []) (h : (readLine (cut s sEnd).1).2 = false ∨ hasPrefix (s.drop (cut s sEnd).1.length) sEnd = false ∨ (readLine (cut s sEnd).1).1.part < p) : (scan f a p s).1 = some a := by
  cases f with
  | zero => exact absurd (List.length_eq_zero_iff.1 (by omega)) hs
  | succ f => rw [scan, if_neg hs, if_pos h]
theorem scan_stop {p q : Int} {L : List Str} {X : List Ln} (h : Good p L X q) {f a : Nat} {rest : Str} (hf : (flat L ++ rest).length ≤ f) (hs : rest ≠ [])
    (hb : (readLine (cut rest sEnd).1).2 = false ∨ hasPrefix (rest.drop (cut rest sEnd).1.length) sEnd = false ∨ (readLine (cut rest sEnd).1).1.part < q) : (scan f a p (flat L ++ rest)).1 = some (a + (flat L).length) := by
  obtain ⟨f', hf', e⟩ := scan_good h f a rest hf
  rw [e]
  exact scan_bad hf' hs hb
theorem scan_all {p q : Int} {L : List Str} {X : List Ln} (h : Good p L X q) {f a : Nat} (hf : (flat L).length ≤ f) : scan f a p (flat L) = (none, ats a L X) := by
  obtain ⟨f', _, e⟩ := scan_good h f a [] (by simpa using hf)
  rw [List.append_nil] at e
  rw [e]
  cases f' <;> simp [scan]
theorem spoilt_a {p q : Int} {L : List Str} {X : List Ln} (h : Good p L X q) {f : Nat} {l r : Str} (hl : (10 : UInt8) ∉ l) (hf : (flat L ++ (97 :: (l ++ 59 :: 10 :: r))).length ≤ f) : (scan f 0 p (flat L ++ (97 :: (l ++ 59 :: 10 :: r)))).1 = some (flat L).length := by
  have := scan_stop h (a := 0) hf (by simp) (.inl ?_)
  · simpa using this
  · have e : (97 : UInt8) :: (l ++ 59 :: 10 :: r) = (97 :: l) ++ 59 :: 10 :: r := rfl
    rw [e, cutE_hit (by simp only [List.mem_cons, not_or]; exact ⟨by decide, hl⟩)]
    exact read_a l
theorem index_ge (sub : Str) : ∀ s : Str, -1 ≤ index s sub
  | [] => by unfold index; split <;> omega
  | x :: s => by
    have ih := index_ge sub s
    unfold index
    split
    · omega
    · split
      · omega
      · rename_i h
        omega
theorem indexE_nl : ∀ {l r : Str}, (10 : UInt8) ∉ l → l.getLast? ≠ some 59 → index (l ++ 10 :: r) sEnd = -1 ∨ (l.length : Int) < index (l ++ 10 :: r) sEnd
  | [], r, _, _ => by
    have hg := index_ge sEnd r
    simp only [List.nil_append, index]
    rw [if_neg (by simp [sEnd, List.isPrefixOf])]
    by_cases h : index r sEnd = -1
    · simp [h]
    · right
      simp [h]
      omega
  | x :: l, r, h, hl => by
    simp only [List.mem_cons, not_or] at h
    have hp : sEnd.isPrefixOf (x :: (l ++ 10 :: r)) = false := by
      cases l with
      | nil =>
        have : (59 : UInt8) ≠ x := fun e => hl (by rw [← e]; rfl)
        simp [sEnd, List.isPrefixOf, this]
      | cons y l =>
        have : (10 : UInt8) ≠ y := fun e => h.2 (by simp [e])
        simp [sEnd, List.isPrefixOf, this]
    have hl' : l.getLast? ≠ some 59 := by
      cases l with
      | nil => simp
      | cons y l => rw [List.getLast?_cons_cons] at hl; exact hl
    have ih := indexE_nl (r := r) h.2 hl'
    simp only [List.cons_append, index, hp]
    rcases ih with ih | ih
    · left; simp [ih]
    · right
      have : ((index (l ++ 10 :: r) sEnd) == -1) = false := by rw [beq_eq_false_iff_ne]; omega
      simp [this]
      omega
theorem spoilt_semi {p q : Int} {L : List Str} {X : List Ln} (h : Good p L X q) {f : Nat} {l r : Str} (hl : (10 : UInt8) ∉ l) (hl2 : l.getLast? ≠ some 59) (hf : (flat L ++ (l ++ 10 :: r)).length ≤ f) : (scan f 0 p (flat L ++ (l ++ 10 :: r))).1 = some (flat L).length := by
  have := scan_stop h (a := 0) hf (by simp) (.inl (read_no10 ?_))
  · simpa using this
  · unfold cut
    rcases indexE_nl (r := r) hl hl2 with hi | hi
    · rw [hi, if_neg (by decide)]; simp
    · rw [if_pos (by omega)]
      have : l.length < (index (l ++ 10 :: r) sEnd).toNat := by omega
      refine List.mem_iff_getElem?.2 ⟨l.length, ?_⟩
      simp only
      rw [List.getElem?_take, if_pos this]
      simp
theorem spoilt_end {p q : Int} {L : List Str} {X : List Ln} (h : Good p L X q) {f : Nat} {l : Str} (hl : (10 : UInt8) ∉ l) (hf : (flat L ++ (l ++ [59])).length ≤ f) : (scan f 0 p (flat L ++ (l ++ [59]))).1 = some (flat L).length := by
  have := scan_stop h (a := 0) hf (by simp) (.inr (.inl ?_))
  · simpa using this
  · rw [cutE_miss (by simp [hl])]
    simp only [List.drop_length]
    rfl
theorem spoilt_more {p q : Int} {L : List Str} {X : List Ln} (h : Good p L X q) (hq : 2 ≤ q) {f : Nat} {l : Str} {x : Ln} {b : Bool} (hl : (10 : UInt8) ∉ l) (hr : readLine l = (x, b)) (hx : x.part = 1) (hf : (flat L ++ (l ++ [59, 10])).length ≤ f) : (scan f 0 p (flat L ++ (l ++ [59, 10]))).1 = some (flat L).length := by
  have := scan_stop h (a := 0) hf (by simp) (.inr (.inr ?_))
  · simpa using this
  · rw [cutE_hit hl, hr]
    show x.part < q
    omega
def startsFrom : Bool → Nat → Str → List Nat
  | _, _, [] => []
  | b, a, c :: r => (if b = true then [a] else []) ++ startsFrom (c == 10) (a + 1) r
def offs : Nat → List Str → List Nat
  | _, [] => []
  | a, l :: L => a :: offs (a + l.length + 2) L
theorem starts_mid : ∀ {l r : Str} {a : Nat}, (10 : UInt8) ∉ l → startsFrom false a (l ++ 59 :: 10 :: r) = startsFrom true (a + l.length + 2) r
  | [], r, a, _ => by simp [startsFrom]
  | c :: l, r, a, h => by
    simp only [List.mem_cons, not_or] at h
    have hc : (c == 10) = false := by rw [beq_eq_false_iff_ne]; exact fun e => h.1 e.symm
    simp only [List.cons_append, startsFrom, hc, Bool.false_eq_true, if_false, List.nil_append, starts_mid h.2, List.length_cons]
    rw [show a + 1 + l.length + 2 = a + (l.length + 1) + 2 by omega]
theorem starts_flat : ∀ {L : List Str} {a : Nat}, (∀ l ∈ L, l ≠ [] ∧ (10 : UInt8) ∉ l) → startsFrom true a (flat L) = offs a L
  | [], a, _ => rfl
  | l :: L, a, h => by
    obtain ⟨h1, h2⟩ := h l (by simp)
    rw [flat_cons, offs, ← starts_flat fun x hx => h x (by simp [hx])]
    match l, h1, h2 with
    | c :: l, _, h2 =>
      simp only [List.mem_cons, not_or] at h2
      have hc : (c == 10) = false := by rw [beq_eq_false_iff_ne]; exact fun e => h2.1 e.symm
      simp only [List.cons_append, startsFrom, hc, if_true, starts_mid h2.2, List.length_cons, List.nil_append]
      rw [show a + 1 + l.length + 2 = a + (l.length + 1) + 2 by omega]
theorem startsFrom_append : ∀ {x y : Str} {b : Bool} {a : Nat}, startsFrom b a (x ++ y) = startsFrom b a x ++ startsFrom (match x.getLast? with | some c => c == 10 | none => b) (a + x.length) y
  | [], y, b, a => rfl
  | c :: x, y, b, a => by
    simp only [List.cons_append, startsFrom, startsFrom_append (x := x), List.length_cons, List.append_assoc]
    rw [show a + 1 + x.length = a + (x.length + 1) by omega]
    cases x with
    | nil => rfl
    | cons d x =>
      rw [List.getLast?_cons_cons]
      have : ∃ e, (d :: x).getLast? = some e := by
        cases h : (d :: x).getLast? with
        | none => simp at h
        | some e => exact ⟨e, rfl⟩
      obtain ⟨e, he⟩ := this
      rw [he]
theorem startsFrom_step {s : Str} {i : Nat} (h : i < s.length) : startsFrom true 0 (s.take (i + 1)) = startsFrom true 0 (s.take i) ++ (if i = 0 ∨ s.getD (i - 1) 0 = 10 then [i] else []) := by
  rw [List.take_succ_eq_append_getElem h, startsFrom_append]
  congr 1
  simp only [startsFrom, List.append_nil, List.length_take, Nat.zero_add, Nat.min_eq_left (Nat.le_of_lt h)]
  cases i with
  | zero => simp
  | succ i =>
    have hg : (s.take (i + 1)).getLast? = some (s.getD i 0) := by
      rw [List.take_succ_eq_append_getElem (by omega), List.getLast?_concat, List.getD_eq_getElem?_getD, List.getElem?_eq_getElem (by omega)]
      rfl
    rw [hg]
    simp
theorem offs_len : ∀ (L : List Str) (a : Nat), (offs a L).length = L.length
  | [], _ => rfl
  | l :: L, a => by simp [offs, offs_len L]
theorem offs_get : ∀ {L1 L2 : List Str} {l : Str} {a : Nat}, (offs a (L1 ++ l :: L2)).getD L1.length 0 = a + (flat L1).length
  | [], L2, l, a => by simp [offs, flat_nil]
  | x :: L1, L2, l, a => by
    have := offs_get (L1 := L1) (L2 := L2) (l := l) (a := a + x.length + 2)
    simp only [List.cons_append, offs, List.length_cons, List.getD_cons_succ, this, flat_cons, List.length_append]
    omega
end Go.Tx
end
section
set_option linter.unusedVariables false
set_option linter.unusedSimpArgs false
namespace Go.Tx
open Go.Lib
def lnOpd (x : Ln) : Option Opd := if x.part = 1 then some x.opd else none
def lnMon (x : Ln) : Option Mon := if x.part = 3 then some x.mon else none
def lnIns (ops : List Opd) (x : Ln) : Option Ins := if x.part = 2 then some ⟨x.op, x.args.map (named ops)⟩ else none
def prgOfLns (X : List Ln) : Prg := ⟨X.filterMap lnOpd, X.filterMap (lnIns (X.filterMap lnOpd)), X.filterMap lnMon⟩
def parseOf (s : Str) : Prg × Int × Int :=
  if 6000 < s.length then (prg0, 0, 2)
  else match (scan s.length 0 1 s).1 with
    | some a => (prg0, (a : Int), 8)
    | none => (prgOfLns (scan s.length 0 1 s).2, 0, 0)
structure PrgOk (p : Prg) : Prop where
  ops : ∀ o ∈ p.ops, OpdOk o
  ins : ∀ x ∈ p.ins, 0 ≤ x.op ∧ x.op < 19 ∧ ∀ a ∈ x.args, 0 ≤ a ∧ a < (p.ops.length : Int)
  mons : ∀ m ∈ p.mons, (0 ≤ m.fr ∧ m.fr < 1000000000000000) ∧ (0 ≤ m.to ∧ m.to < 1000000000000000) ∧ (0 ≤ m.ex ∧ m.ex < 1000000000000000) ∧ (0 ≤ m.hd ∧ m.hd < 1000000000000000)
  own : ∀ i, i < p.ops.length → named p.ops (p.ops.getD i opd0).name = (i : Int)
  some : p.ins ≠ []
def opdLn (o : Opd) : Ln := { ln0 with part := 1, opd := o }
def insLn (p : Prg) (x : Ins) : Ln := { ln0 with part := 2, op := x.op, args := argNames p x }
def monLn (m : Mon) : Ln := { ln0 with part := 3, mon := m }
def prgLns (p : Prg) : List Ln := p.ops.map opdLn ++ p.ins.map (insLn p) ++ p.mons.map monLn
theorem last_ne {a b : Str} (hb : b ≠ []) (h : (59 : UInt8) ∉ b) : (a ++ b).getLast? ≠ some 59 := by
  rw [List.getLast?_append]
  intro e
  cases hl : b.getLast? with
  | none => exact hb (List.getLast?_eq_none_iff.1 hl)
  | some c =>
    rw [hl] at e
    simp at e
    subst e
    exact h (List.mem_of_getLast? hl)
theorem itoa_ne (n : Int) : itoa n ≠ [] := by
  unfold itoa
  split
  · simp
  · exact decDigits_ne _
theorem opdLine_last {o : Opd} (h : isName o.name = true) : opdLine o ≠ [] ∧ (opdLine o).getLast? ≠ some 59 := by
  have n1 : (59 : UInt8) ∉ o.name := name_no h (by decide)
  have n2 : o.name ≠ [] := fun e => by rw [e] at h; cases h
  have n3 : (59 : UInt8) ∉ itoa o.tgt := itoa_no (by decide) (by decide)
  unfold opdLine
  split
  · exact ⟨by simp, last_ne (by simp) (by decide)⟩
  · split
    · exact ⟨by simp, last_ne (by simp) (by decide)⟩
    · split
      · exact ⟨by simp, last_ne (by simp) (by decide)⟩
      · split
        · exact ⟨by simp, last_ne n2 n1⟩
        · split
          · exact ⟨by simp, last_ne (by simp) (by decide)⟩
          · exact ⟨by simp, last_ne (itoa_ne _) n3⟩
theorem jn_no {c d : UInt8} (h : d ≠ c) : ∀ {xs : List Str}, (∀ x ∈ xs, d ∉ x) → d ∉ jn c xs
  | [], _ => by simp [jn]
  | [x], hx => by simpa [jn] using hx x (by simp)
  | x :: y :: r, hx => by
    have ih := jn_no h (xs := y :: r) fun z hz => hx z (by simp [hz])
    simp only [jn, List.mem_append, List.mem_cons, not_or]
    exact ⟨hx x (by simp), h, ih⟩
theorem insLine_ok {op : Int} {args : List Str} (h0 : 0 ≤ op) (h1 : op < 19) (ha : ∀ a ∈ args, isName a = true) : (10 : UInt8) ∉ insLine op args ∧ insLine op args ≠ [] ∧ (insLine op args).getLast? ≠ some 59 := by
  obtain ⟨f1, f2, f3, f4, f5, f6, f7⟩ := op_facts op.toNat (by omega)
  unfold insLine
  by_cases he : args = []
  · rw [if_pos he]
    exact ⟨f6, fun e => by rw [e] at f5; simp at f5, f7⟩
  · rw [if_neg he, join_jn]
    have n1 : (10 : UInt8) ∉ jn 44 args := jn_no (by decide) fun x hx => name_no (ha x hx) (by decide)
    have n2 : (59 : UInt8) ∉ [32] ++ jn 44 args := by
      simp only [List.mem_append, not_or]
      exact ⟨by decide, jn_no (by decide) fun x hx => name_no (ha x hx) (by decide)⟩
    refine ⟨?_, by simp, ?_⟩
    · simp only [List.mem_append, n1, f6, or_false, false_or]; decide
    · rw [List.append_assoc]
      exact last_ne (by simp) n2
theorem monLine_ok (m : Mon) : (10 : UInt8) ∉ monLine m ∧ monLine m ≠ [] ∧ (monLine m).getLast? ≠ some 59 := by
  have n : ∀ k : Int, (10 : UInt8) ∉ itoa k := fun k => itoa_no (by decide) (by decide)
  unfold monLine
  refine ⟨?_, by simp, last_ne (itoa_ne _) (itoa_no (by decide) (by decide))⟩
  simp only [List.mem_append, n, or_false, false_or]; decide
theorem argNames_ok {p : Prg} (h : PrgOk p) {x : Ins} (hx : x ∈ p.ins) : ∀ a ∈ argNames p x, isName a = true := by
  intro a ha
  obtain ⟨i, hi, rfl⟩ := List.mem_map.1 ha
  obtain ⟨_, _, h3⟩ := h.ins x hx
  obtain ⟨h4, h5⟩ := h3 i hi
  have hlt : i.toNat < p.ops.length := by omega
  rw [List.getD_eq_getElem?_getD, List.getElem?_eq_getElem hlt]
  exact (h.ops _ (List.getElem_mem hlt)).name
theorem good_ops {L : List Opd} (h : ∀ o ∈ L, OpdOk o) : Good 1 (L.map opdLine) (L.map opdLn) 1 := by
  induction L with
  | nil => exact .nil 1
  | cons o L ih =>
    have ho := h o (by simp)
    exact .cons (x := opdLn o) (opdLine_no10 ho.name fun hk => (ho.base hk).1) (read_opd ho) (Int.le_refl _) (ih fun x hx => h x (by simp [hx]))
theorem good_ins {p : Prg} {L : List Ins} {a : Int} (ha : a ≤ 2) (h : ∀ x ∈ L, 0 ≤ x.op ∧ x.op < 19 ∧ ∀ s ∈ argNames p x, isName s = true) : Good a (L.map fun x => insLine x.op (argNames p x)) (L.map (insLn p)) (if L = [] then a else 2) := by
  induction L generalizing a with
  | nil => exact .nil a
  | cons x L ih =>
    obtain ⟨h1, h2, h3⟩ := h x (by simp)
    have := ih (a := 2) (Int.le_refl _) fun y hy => h y (by simp [hy])
    rw [if_neg (by simp)]
    refine .cons (x := insLn p x) (insLine_ok h1 h2 h3).1 (read_ins h1 h2 h3) ha ?_
    have e : (if L = [] then (2 : Int) else 2) = 2 := by split <;> rfl
    rw [e] at this
    exact this
theorem good_mons {L : List Mon} {a : Int} (ha : a ≤ 3) (h : ∀ m ∈ L, (0 ≤ m.fr ∧ m.fr < 1000000000000000) ∧ (0 ≤ m.to ∧ m.to < 1000000000000000) ∧ (0 ≤ m.ex ∧ m.ex < 1000000000000000) ∧ (0 ≤ m.hd ∧ m.hd < 1000000000000000)) :
    ∃ q, a ≤ q ∧ Good a (L.map monLine) (L.map monLn) q := by
  induction L generalizing a with
  | nil => exact ⟨a, Int.le_refl _, .nil a⟩
  | cons m L ih =>
    obtain ⟨h1, h2, h3, h4⟩ := h m (by simp)
    obtain ⟨q, hq, hg⟩ := ih (a := 3) (Int.le_refl _) fun y hy => h y (by simp [hy])
    exact ⟨q, by omega, .cons (x := monLn m) (monLine_ok m).1 (read_mon h1 h2 h3 h4) ha hg⟩
theorem prg_good {p : Prg} (h : PrgOk p) : ∃ q, 2 ≤ q ∧ Good 1 (progLines p) (prgLns p) q := by
  have g1 := good_ops h.ops
  have g2 := good_ins (p := p) (a := 1) (by omega) fun x hx => ⟨(h.ins x hx).1, (h.ins x hx).2.1, argNames_ok h hx⟩
  rw [if_neg h.some] at g2
  obtain ⟨q, hq, g3⟩ := good_mons (a := 2) (by omega) h.mons
  exact ⟨q, hq, (g1.append g2).append g3⟩
theorem line_ok {p : Prg} (h : PrgOk p) : ∀ l ∈ progLines p, (10 : UInt8) ∉ l ∧ l ≠ [] ∧ l.getLast? ≠ some 59 := by
  intro l hl
  unfold progLines at hl
  simp only [List.mem_append, List.mem_map] at hl
  rcases hl with (⟨o, ho, rfl⟩ | ⟨x, hx, rfl⟩) | ⟨m, hm, rfl⟩
  · have := h.ops o ho
    obtain ⟨h1, h2⟩ := opdLine_last this.name
    exact ⟨opdLine_no10 this.name fun hk => (this.base hk).1, h1, h2⟩
  · exact insLine_ok (h.ins x hx).1 (h.ins x hx).2.1 (argNames_ok h hx)
  · exact monLine_ok m
theorem ats_filter {α : Type} {f : Ln → Option α} (hf : ∀ (x : Ln) (n : Int), f { x with at_ := n } = f x) {p q : Int} {L : List Str} {X : List Ln} (h : Good p L X q) : ∀ a, (ats a L X).filterMap f = X.filterMap f := by
  induction h with
  | nil p => intro a; rfl
  | cons h1 h2 h3 t ih =>
    intro a
    simp only [ats, List.filterMap_cons, hf, ih]
theorem filter_no {α β : Type} : ∀ l : List α, l.filterMap (fun _ => (none : Option β)) = []
  | [] => rfl
  | x :: l => by rw [List.filterMap_cons]; exact filter_no l
theorem filter_map {α β : Type} (f : α → β) : ∀ l : List α, l.filterMap (fun x => some (f x)) = l.map f
  | [] => rfl
  | x :: l => by rw [List.filterMap_cons, List.map_cons]; exact congrArg _ (filter_map f l)
theorem prg_back {p : Prg} (h : PrgOk p) {q : Int} (hg : Good 1 (progLines p) (prgLns p) q) (a : Nat) : prgOfLns (ats a (progLines p) (prgLns p)) = p := by
  have e1 : (prgLns p).filterMap lnOpd = p.ops := by
    unfold prgLns
    rw [List.filterMap_append, List.filterMap_append, List.filterMap_map, List.filterMap_map, List.filterMap_map]
    have a1 : (lnOpd ∘ opdLn) = some := rfl
    have a2 : (lnOpd ∘ insLn p) = fun _ => none := rfl
    have a3 : (lnOpd ∘ monLn) = fun _ => none := rfl
    rw [a1, a2, a3]
    simp [filter_no]
  have e3 : (prgLns p).filterMap lnMon = p.mons := by
    unfold prgLns
    rw [List.filterMap_append, List.filterMap_append, List.filterMap_map, List.filterMap_map, List.filterMap_map]
    have a1 : (lnMon ∘ opdLn) = fun _ => none := rfl
    have a2 : (lnMon ∘ insLn p) = fun _ => none := rfl
    have a3 : (lnMon ∘ monLn) = some := rfl
    rw [a1, a2, a3]
    simp [filter_no]
  have e2 : (prgLns p).filterMap (lnIns p.ops) = p.ins := by
    unfold prgLns
    rw [List.filterMap_append, List.filterMap_append, List.filterMap_map, List.filterMap_map, List.filterMap_map]
    have a1 : (lnIns p.ops ∘ opdLn) = fun _ => none := rfl
    have a2 : (lnIns p.ops ∘ insLn p) = fun x => some ⟨x.op, (argNames p x).map (named p.ops)⟩ := rfl
    have a3 : (lnIns p.ops ∘ monLn) = fun _ => none := rfl
    rw [a1, a2, a3]
    simp only [filter_no, List.nil_append, List.append_nil, filter_map]
    conv => rhs; rw [← List.map_id p.ins]
    refine List.map_congr_left fun x hx => ?_
    obtain ⟨op, args⟩ := x
    have h3 := (h.ins _ hx).2.2
    simp only at h3
    simp only [argNames, List.map_map, id]
    congr 1
    conv => rhs; rw [← List.map_id args]
    refine List.map_congr_left fun i hi => ?_
    obtain ⟨h4, h5⟩ := h3 i hi
    have := h.own i.toNat (by omega)
    simp only [Function.comp_def, this, id]
    omega
  unfold prgOfLns
  rw [ats_filter (f := lnOpd) (fun _ _ => rfl) hg, ats_filter (f := lnMon) (fun _ _ => rfl) hg, e1, ats_filter (f := lnIns p.ops) (fun _ _ => rfl) hg, e2, e3]
theorem progText_flat (p : Prg) : progText p = flat (progLines p) := rfl
theorem parse_text {p : Prg} (h : PrgOk p) (hl : (progText p).length ≤ 6000) : parseOf (progText p) = (p, 0, 0) := by
  obtain ⟨q, hq, hg⟩ := prg_good h
  unfold parseOf
  rw [if_neg (by omega), progText_flat, scan_all hg (Nat.le_refl _)]
  simp only [prg_back h hg]
theorem parse_bad {s : Str} {a : Nat} (h : s.length ≤ 6000 → (scan s.length 0 1 s).1 = some a) : parseOf s = (prg0, (if 6000 < s.length then 0 else (a : Int)), if 6000 < s.length then 2 else 8) := by
  unfold parseOf
  by_cases hl : 6000 < s.length
  · rw [if_pos hl, if_pos hl, if_pos hl]
  · rw [if_neg hl, if_neg hl, if_neg hl, h (by omega)]
theorem join_flat : ∀ {L : List Str}, L ≠ [] → join L sEnd ++ sEnd = flat L
  | [], h => absurd rfl h
  | [l], _ => by simp [join, flat, List.intercalate, List.intersperse]
  | l :: m :: L, _ => by
    have ih := join_flat (L := m :: L) (by simp)
    have e : join (l :: m :: L) sEnd = l ++ sEnd ++ join (m :: L) sEnd := by
      simp [join, List.intercalate, List.intersperse]
    rw [e, List.append_assoc, ih]
    simp [flat]
end Go.Tx
end
section
set_option linter.unusedVariables false
set_option linter.unusedSimpArgs false
namespace Go.Tx
open Go.Lib
structure BadAt (X : Str) (a : Nat) : Prop where
  scan : (scan X.length 0 1 X).1 = some a
theorem BadAt.parse {X : Str} {a : Nat} (h : BadAt X a) : parseOf X = (prg0, (if 6000 < X.length then 0 else (a : Int)), if 6000 < X.length then 2 else 8) := parse_bad fun _ => h.scan
theorem split_at {α : Type} {d : α} {L : List α} {k : Nat} (h : k < L.length) : L = L.take k ++ L.getD k d :: L.drop (k + 1) := by
  rw [List.getD_eq_getElem?_getD, List.getElem?_eq_getElem h]
  simp
section
variable {p : Prg} (h : PrgOk p) {k : Nat} (hk : k < (progLines p).length)
include h hk
theorem text_parts : ∃ (L1 L2 : List Str) (l : Str) (X : List Ln) (r : Int), progLines p = L1 ++ l :: L2 ∧ L1.length = k ∧ Good 1 L1 X r ∧ (10 : UInt8) ∉ l ∧ l ≠ [] ∧ l.getLast? ≠ some 59 ∧ progText p = flat L1 ++ (l ++ 59 :: 10 :: flat L2) := by
  have e := split_at (d := ([] : Str)) hk
  obtain ⟨q, hq, hg⟩ := prg_good h
  obtain ⟨l1, l2, l3⟩ := line_ok h ((progLines p).getD k []) (by rw [List.getD_eq_getElem?_getD, List.getElem?_eq_getElem hk]; exact List.getElem_mem hk)
  have hg' := hg
  rw [e] at hg'
  obtain ⟨X1, X2, r, _, g1, g2⟩ := hg'.split
  refine ⟨_, _, _, X1, r, e, by rw [List.length_take]; omega, g1, l1, l2, l3, ?_⟩
  rw [progText_flat]
  conv => lhs; rw [e]
  rw [flat_append, flat_cons]
end
theorem starts_get {p : Prg} (h : PrgOk p) {L1 L2 : List Str} {l : Str} (e : progLines p = L1 ++ l :: L2) : (startsFrom true 0 (progText p)).getD L1.length 0 = (flat L1).length := by
  rw [progText_flat, starts_flat fun l hl => ⟨(line_ok h l hl).2.1, (line_ok h l hl).1⟩, e, offs_get]
  omega
theorem starts_length {p : Prg} (h : PrgOk p) : (startsFrom true 0 (progText p)).length = (progLines p).length := by
  rw [progText_flat, starts_flat fun l hl => ⟨(line_ok h l hl).2.1, (line_ok h l hl).1⟩, offs_len]
theorem lines_pos {p : Prg} (h : PrgOk p) : 0 < (progLines p).length := by
  have := List.length_pos_iff.2 h.some
  unfold progLines
  simp only [List.length_append, List.length_map]
  omega
theorem line_facts {p : Prg} (h : PrgOk p) {k : Nat} (hk : k < (progLines p).length) : ∃ F N : Nat, (startsFrom true 0 (progText p)).getD k 0 = F ∧ F + 3 ≤ N ∧ N ≤ (progText p).length ∧
    (k + 1 < (progLines p).length → (startsFrom true 0 (progText p)).getD (k + 1) 0 = N) ∧ (¬ k + 1 < (progLines p).length → N = (progText p).length) ∧
    BadAt ((progText p).take F ++ [97] ++ (progText p).drop F) F ∧ BadAt ((progText p).take (N - 2) ++ (progText p).drop (N - 1)) F ∧
    (¬ k + 1 < (progLines p).length → BadAt ((progText p).take ((progText p).length - 1)) F) := by
  obtain ⟨L1, L2, l, X, r, e, hL, hg, l1, l2, l3, ht⟩ := text_parts h hk
  have hl1 : 1 ≤ l.length := by
    have := List.length_pos_iff.2 l2
    omega
  have hlen : (progText p).length = (flat L1).length + l.length + 2 + (flat L2).length := by
    rw [ht]
    simp only [List.length_append, List.length_cons]
    omega
  have hpl : (progLines p).length = k + 1 + L2.length := by
    rw [e]
    simp only [List.length_append, List.length_cons]
    omega
  refine ⟨(flat L1).length, (flat L1).length + l.length + 2, ?_, by omega, by omega, fun hk1 => ?_, fun hk1 => ?_, ?_, ?_, fun hk1 => ?_⟩
  · rw [← hL]
    exact starts_get h e
  · match L2, hpl with
    | l' :: L2, hpl =>
      have e2 : progLines p = (L1 ++ [l]) ++ l' :: L2 := by rw [e]; simp
      have := starts_get h e2
      rw [show (L1 ++ [l]).length = k + 1 by simp [hL]] at this
      rw [this, flat_append, flat_cons, flat_nil]
      simp only [List.length_append, List.length_cons, List.length_nil]
      omega
    | [], hpl => simp at hpl; omega
  · have : L2 = [] := List.length_eq_zero_iff.1 (by omega)
    subst this
    rw [flat_nil] at hlen
    simp only [List.length_nil] at hlen
    omega
  · have e1 : (progText p).take (flat L1).length ++ [97] ++ (progText p).drop (flat L1).length = flat L1 ++ 97 :: (l ++ 59 :: 10 :: flat L2) := by
      rw [ht]
      simp
    rw [e1]
    exact ⟨spoilt_a hg l1 (Nat.le_refl _)⟩
  · have e1 : (progText p).take ((flat L1).length + l.length + 2 - 2) ++ (progText p).drop ((flat L1).length + l.length + 2 - 1) = flat L1 ++ (l ++ 10 :: flat L2) := by
      have e3 : progText p = (flat L1 ++ l) ++ (59 :: 10 :: flat L2) := by rw [ht, List.append_assoc]
      have n1 : (flat L1).length + l.length + 2 - 2 = (flat L1 ++ l).length := by rw [List.length_append]; omega
      have n2 : (flat L1).length + l.length + 2 - 1 = (flat L1 ++ l).length + 1 := by rw [List.length_append]; omega
      rw [e3, n1, n2, List.take_left', ← List.drop_drop, List.drop_left']
      · simp
      · rfl
      · rfl
    rw [e1]
    exact ⟨spoilt_semi hg l1 l3 (Nat.le_refl _)⟩
  · have : L2 = [] := List.length_eq_zero_iff.1 (by omega)
    subst this
    rw [flat_nil] at hlen ht
    simp only [List.length_nil] at hlen
    have e1 : (progText p).take ((progText p).length - 1) = flat L1 ++ (l ++ [59]) := by
      have e3 : progText p = (flat L1 ++ (l ++ [59])) ++ [10] := by rw [ht]; simp
      have n1 : (progText p).length - 1 = (flat L1 ++ (l ++ [59])).length := by
        rw [e3]
        simp only [List.length_append, List.length_cons, List.length_nil]
        omega
      rw [n1]
      conv => lhs; rw [e3]
      exact List.take_left' rfl
    rw [e1]
    exact ⟨spoilt_end hg l1 (Nat.le_refl _)⟩
def moreLine : Str := [68, 67, 76, 32, 80, 84, 82, 32, 90, 90, 90, 90, 90, 90, 90, 90, 90, 90]
theorem more_part : (readLine moreLine).1.part = 1 := by
  unfold readLine
  rw [if_pos (by decide)]
theorem more_bad {p : Prg} (h : PrgOk p) : BadAt (progText p ++ (moreLine ++ [59, 10])) (progText p).length := by
  obtain ⟨q, hq, hg⟩ := prg_good h
  have hr : readLine moreLine = ((readLine moreLine).1, (readLine moreLine).2) := rfl
  rw [progText_flat]
  exact ⟨spoilt_more hg hq (by decide) hr more_part (Nat.le_refl _)⟩
end Go.Tx
end
