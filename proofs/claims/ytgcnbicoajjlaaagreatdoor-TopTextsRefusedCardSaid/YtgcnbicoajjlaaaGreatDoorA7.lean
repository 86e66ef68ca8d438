/-
What is proved: 'midrangetop.TopTextsRefused' returns true for every input, and its arguments read behind the call as they read before (the tied card of the statement 'TopTextsRefused').
  Its conditions: the row's own: the ten listed package-level variables start as the program's text lays them (the card ties them to that text); nothing else is asked.
  Part 7 of 15.
-/
import Derived.Test.YtgcnbicoajjlaaaGreatDoorA5
import Derived.Test.YtgcnbicoajjlaaaGreatDoorA6
import Derived.Test.YtgcnbicoajjlaaaGreatDoorProg
import Derived.KernelRfl
import Derived.Laws.StructEq
set_option linter.unusedSectionVars false
set_option linter.unusedVariables false
set_option linter.unusedSimpArgs false
section
set_option linter.unusedVariables false
set_option maxRecDepth 100000
namespace Go.Proofs.YtgcnbicoajjlaaaGreatDoor
open Go Go.Eng Go.Tx
noncomputable def TT : List (Nat × TI) := [
  (3, ⟨.int .i64, 1, [.int .i64 0]⟩),
  (4, ⟨.bool, 1, [.bool false]⟩),
  (5, ⟨.int .u8, 1, [.int .u8 0]⟩),
  (9, ⟨.string, 1, [.str []]⟩),
  (20, ⟨.iface, 1, [.nilI]⟩),
  (22, ⟨.slice 46 10, 1, [.nilS]⟩),
  (23, ⟨.slice 48 2, 1, [.nilS]⟩),
  (24, ⟨.slice 58 4, 1, [.nilS]⟩),
  (26, ⟨.struct [(0, 1, false), (1, 1, false), (2, 1, false)], 3, [.nilS, .nilS, .nilS]⟩),
  (30, ⟨.int .i64, 1, [.int .i64 0]⟩),
  (38, ⟨.slice 3 1, 1, [.nilS]⟩),
  (42, ⟨.struct [(0, 1, false), (1, 1, false), (2, 1, false)], 3, [.int .i64 0, .int .i64 0, .int .i64 0]⟩),
  (44, ⟨.struct [(0, 1, false), (1, 1, false)], 2, [.int .i64 0, .str []]⟩),
  (46, ⟨.struct [(0, 1, false), (1, 1, false), (2, 3, true), (5, 2, true), (7, 1, false), (8, 1, false), (9, 1, false)], 10, [.str [], .int .i64 0, .int .i64 0, .int .i64 0, .int .i64 0, .int .i64 0, .str [], .str [], .int .i64 0, .int .i64 0]⟩),
  (48, ⟨.struct [(0, 1, false), (1, 1, false)], 2, [.int .i64 0, .nilS]⟩),
  (50, ⟨.struct [(0, 1, false), (1, 1, false)], 2, [.int .i64 0, .int .i64 0]⟩),
  (54, ⟨.slice 9 1, 1, [.nilS]⟩),
  (58, ⟨.struct [(0, 1, false), (1, 1, false), (2, 1, false), (3, 1, false)], 4, [.int .i64 0, .int .i64 0, .int .i64 0, .int .i64 0]⟩),
  (64, ⟨.slice 69 18, 1, [.nilS]⟩),
  (69, ⟨.struct [(0, 1, false), (1, 1, false), (2, 10, true), (12, 1, false), (13, 1, false), (14, 4, true)], 18, [.int .i64 0, .int .i64 0, .str [], .int .i64 0, .int .i64 0, .int .i64 0, .int .i64 0, .int .i64 0, .str [], .str [], .int .i64 0, .int .i64 0, .int .i64 0, .nilS, .int .i64 0, .int .i64 0, .int .i64 0, .int .i64 0]⟩),
  (82, ⟨.array 19 9 1, 19, [.str [], .str [], .str [], .str [], .str [], .str [], .str [], .str [], .str [], .str [], .str [], .str [], .str [], .str [], .str [], .str [], .str [], .str [], .str []]⟩),
  (84, ⟨.slice 5 1, 1, [.nilS]⟩),
  (89, ⟨.iface, 1, [.nilI]⟩),
  (97, ⟨.other, 1, [.nilF]⟩),
  (103, ⟨.array 4 38 1, 4, [.nilS, .nilS, .nilS, .nilS]⟩),
  (104, ⟨.array 19 38 1, 19, [.nilS, .nilS, .nilS, .nilS, .nilS, .nilS, .nilS, .nilS, .nilS, .nilS, .nilS, .nilS, .nilS, .nilS, .nilS, .nilS, .nilS, .nilS, .nilS]⟩),
  (107, ⟨.other, 1, [.nilF]⟩),
  (120, ⟨.struct [(0, 1, false), (1, 1, false)], 2, [.int .i64 0, .int .i64 0]⟩),
  (122, ⟨.int .u64, 1, [.int .u64 0]⟩),
  (134, ⟨.other, 1, [.nilF]⟩),
  (136, ⟨.slice 30 1, 1, [.nilS]⟩)]
theorem TT_ok : ∀ p ∈ TT, tiOf Tryz.prog p.1 = some p.2 := by
  simp only [TT, List.forall_mem_cons]
  refine ⟨by kernel_rfl, by kernel_rfl, by kernel_rfl, by kernel_rfl, by kernel_rfl, by kernel_rfl, by kernel_rfl, by kernel_rfl, by kernel_rfl, by kernel_rfl, by kernel_rfl, by kernel_rfl, by kernel_rfl, by kernel_rfl, by kernel_rfl, by kernel_rfl, by kernel_rfl, by kernel_rfl, by kernel_rfl, by kernel_rfl, by kernel_rfl, by kernel_rfl, by kernel_rfl, by kernel_rfl, by kernel_rfl, by kernel_rfl, by kernel_rfl, by kernel_rfl, by kernel_rfl, by kernel_rfl, by kernel_rfl, fun _ h => nomatch h⟩
noncomputable def I (n : Int) : AV := .int .i64 n
noncomputable def slOf {α : Type} (enc : α → List AV) (d : α) (sz : Nat) (l : List α) : AV := .sl false sz l.length (fun i => enc (l.getD i d))
noncomputable def cStr (s : Str) : List AV := [.str s]
noncomputable def cInt (n : Int) : List AV := [.int .i64 n]
noncomputable def slInts (l : List Int) : AV := .sl false 1 l.length (fun i => [.int .i64 (l.getD i 0)])
noncomputable def slStrs (l : List Str) : AV := .sl false 1 l.length (fun i => [.str (l.getD i [])])
noncomputable def cOpd (o : Opd) : List AV := [.str o.name, .int .i64 o.kind, .int .i64 o.ty.k, .int .i64 o.ty.l, .int .i64 o.ty.s, .int .i64 o.n, .str o.v, .str o.base, .int .i64 o.off, .int .i64 o.tgt]
noncomputable def cIns (x : Ins) : List AV := [.int .i64 x.op, slInts x.args]
noncomputable def cMon (m : Mon) : List AV := [.int .i64 m.fr, .int .i64 m.to, .int .i64 m.ex, .int .i64 m.hd]
noncomputable def slOpds (l : List Opd) : AV := .sl false 10 l.length (fun i => cOpd (l.getD i opd0))
noncomputable def slIns (l : List Ins) : AV := .sl false 2 l.length (fun i => cIns (l.getD i ins0))
noncomputable def slMons (l : List Mon) : AV := .sl false 4 l.length (fun i => cMon (l.getD i mon0))
noncomputable def aPrg (p : Prg) : AV := .agg [slOpds p.ops, slIns p.ins, slMons p.mons]
noncomputable def cLn (x : Ln) : List AV := [.int .i64 x.at_, .int .i64 x.part] ++ cOpd x.opd ++ [.int .i64 x.op, slStrs x.args] ++ cMon x.mon
noncomputable def slLns (l : List Ln) : AV := .sl false 18 l.length (fun i => cLn (l.getD i ln0))
noncomputable def pow10s : List Int := [1, 10, 100, 1000, 10000, 100000, 1000000, 10000000, 100000000, 1000000000, 10000000000, 100000000000, 1000000000000, 10000000000000, 100000000000000, 1000000000000000, 10000000000000000, 100000000000000000, 1000000000000000000, 10000000000000000000]
noncomputable def GG (m : Int) : Nat → AV
  | 0 => .rda 1 19 (fun i => [.str (opNames.getD i [])])
  | 1 => .rda 1 19 (fun i => [slInts (roles i)])
  | 2 => .rd [slStrs kindWords]
  | 3 => .rd [.int .i64 m]
  | 4 => .rda 1 20 (fun i => [.int .u64 (pow10s.getD i 0)])
  | 5 => .rd [.ifS]
  | 6 => .rd [.ifS]
  | _ => .any
noncomputable def EQT : List (Nat × List Bool) := [(42, [true, true, true]), (44, [true, false]), (46, [false, true, true, true, true, true, false, false, true, true]), (50, [true, true]), (58, [true, true, true, true])]
noncomputable def env (m : Int) (Γ : List (Nat × Con)) : Env := ⟨Tryz.prog, TT, Γ, GG m, EQT⟩
noncomputable def bodyOf (fn : Func) : Code := fn.body.getD .skip
noncomputable def Runs (m : Int) (Γ : List (Nat × Con)) (fn : Func) (INV : List (Nat × Inv)) (xs : List AV) (r : AV) : Prop :=
  AWP (env m Γ) INV (bodyOf fn) (Eng.Ends (env m Γ) fn.results r) (argSlots xs) noH
noncomputable def okFn (fn : Func) : Bool := fn.body.isSome && !(fn.name == "runtime.NumGoroutine") && dstsIn fn.ntmps (bodyOf fn)
end Go.Proofs.YtgcnbicoajjlaaaGreatDoor
end
section
set_option linter.unusedVariables false
set_option linter.unusedSimpArgs false
set_option maxRecDepth 100000
namespace Go.Proofs.YtgcnbicoajjlaaaGreatDoor
open Go Go.Eng Go.Tx
structure FEq (P : Program) (d : Nat) (f : Field) (off : Nat) (sh : List Bool) : Prop where
  name : f.name ≠ "_"
  run : ∀ (xs ys l l' : List AV) (post post' : List AV) (w : World) (r : Bool), xs.length = off → ys.length = off → shapeIs sh l = true → shapeIs sh l' = true → eqCells l l' = some r →
    ∃ a b, (part f.type ((xs ++ l ++ post).map Eng.valOf).toArray f.offset).run P w = .ok a w ∧ (part f.type ((ys ++ l' ++ post').map Eng.valOf).toArray f.offset).run P w = .ok b w ∧ (Op.equalIn d f.type a b).run P w = .ok r w
theorem shape1 {l : List AV} (h : shapeIs [true] l = true) : ∃ n, l = [.int .i64 n] := by
  match l, h with
  | [.int .i64 n], _ => exact ⟨n, rfl⟩
theorem shape0 {l : List AV} (h : shapeIs [false] l = true) : ∃ s, l = [.str s] := by
  match l, h with
  | [.str s], _ => exact ⟨s, rfl⟩
theorem get_mid {xs post : List AV} {v : AV} {off : Nat} (h : xs.length = off) : (((xs ++ [v] ++ post).map Eng.valOf).toArray)[off]? = some (Eng.valOf v) := by
  subst h
  simp
theorem feq_int {P : Program} {d : Nat} {f : Field} {off : Nat} (hn : f.name ≠ "_") (ho : f.offset = off) (hu : P.underlying f.type = some (.int .i64)) : FEq P (d + 1) f off [true] where
  name := hn
  run := fun xs ys l l' post post' w r hx hy hl hl' he => by
    obtain ⟨n, rfl⟩ := shape1 hl
    obtain ⟨n', rfl⟩ := shape1 hl'
    refine ⟨.int .i64 n, .int .i64 n', ?_, ?_, ?_⟩
    · simp only [part, isAgg, Sem.run_bind, run_underlying hu, Result.andThen_ok, ho, get_mid hx]; rfl
    · simp only [part, isAgg, Sem.run_bind, run_underlying hu, Result.andThen_ok, ho, get_mid hy]; rfl
    · rw [run_equalIn_int w d f.type .i64 .i64 n n' hu]
      simp [eqCells] at he
      subst he
      congr 1
theorem feq_str {P : Program} {d : Nat} {f : Field} {off : Nat} (hn : f.name ≠ "_") (ho : f.offset = off) (hu : P.underlying f.type = some .string) : FEq P (d + 1) f off [false] where
  name := hn
  run := fun xs ys l l' post post' w r hx hy hl hl' he => by
    obtain ⟨n, rfl⟩ := shape0 hl
    obtain ⟨n', rfl⟩ := shape0 hl'
    refine ⟨.string ⟨n.toArray⟩, .string ⟨n'.toArray⟩, ?_, ?_, ?_⟩
    · simp only [part, isAgg, Sem.run_bind, run_underlying hu, Result.andThen_ok, ho, get_mid hx]; rfl
    · simp only [part, isAgg, Sem.run_bind, run_underlying hu, Result.andThen_ok, ho, get_mid hy]; rfl
    · rw [run_equalIn_string w d f.type ⟨n.toArray⟩ ⟨n'.toArray⟩ hu]
      simp [eqCells] at he
      subst he
      simp [ByteArray.toList_eq]
      rw [Bool.eq_iff_iff]; simp
theorem shape_split {s1 s2 : List Bool} : ∀ {l : List AV}, shapeIs (s1 ++ s2) l = true → ∃ a b, l = a ++ b ∧ shapeIs s1 a = true ∧ shapeIs s2 b = true := by
  induction s1 with
  | nil => intro l h; exact ⟨[], l, rfl, rfl, h⟩
  | cons s s1 ih =>
    intro l h
    cases s with
    | true =>
      match l, h with
      | .int .i64 n :: l, h =>
        obtain ⟨a, b, rfl, h1, h2⟩ := ih (l := l) h
        exact ⟨.int .i64 n :: a, b, rfl, h1, h2⟩
    | false =>
      match l, h with
      | .str n :: l, h =>
        obtain ⟨a, b, rfl, h1, h2⟩ := ih (l := l) h
        exact ⟨.str n :: a, b, rfl, h1, h2⟩
theorem eqCells_some {s : List Bool} : ∀ {l l' : List AV}, shapeIs s l = true → shapeIs s l' = true → ∃ r, eqCells l l' = some r := by
  induction s with
  | nil =>
    intro l l' h h'
    match l, l', h, h' with
    | [], [], _, _ => exact ⟨true, rfl⟩
  | cons s s1 ih =>
    intro l l' h h'
    cases s with
    | true =>
      match l, l', h, h' with
      | .int .i64 n :: l, .int .i64 n' :: l', h, h' =>
        obtain ⟨r, hr⟩ := ih (l := l) (l' := l') h h'
        exact ⟨_, by simp [eqCells, hr]; rfl⟩
    | false =>
      match l, l', h, h' with
      | .str n :: l, .str n' :: l', h, h' =>
        obtain ⟨r, hr⟩ := ih (l := l) (l' := l') h h'
        exact ⟨_, by simp [eqCells, hr]; rfl⟩
theorem eqCells_append {s : List Bool} : ∀ {a a' b b' : List AV} {r1 r2 : Bool}, shapeIs s a = true → shapeIs s a' = true → eqCells a a' = some r1 → eqCells b b' = some r2 → eqCells (a ++ b) (a' ++ b') = some (r1 && r2) := by
  induction s with
  | nil =>
    intro a a' b b' r1 r2 h h' e1 e2
    match a, a', h, h' with
    | [], [], _, _ => simp [eqCells] at e1; subst e1; simpa using e2
  | cons s s1 ih =>
    intro a a' b b' r1 r2 h h' e1 e2
    cases s with
    | true =>
      match a, a', h, h' with
      | .int .i64 n :: a, .int .i64 n' :: a', h, h' =>
        obtain ⟨r, hr⟩ := eqCells_some (l := a) (l' := a') h h'
        simp only [eqCells, if_pos, hr, Option.map_some, Option.some.injEq] at e1
        subst e1
        simp only [List.cons_append, eqCells, if_pos, ih (a := a) (a' := a') h h' hr e2, Option.map_some, Bool.and_assoc]
    | false =>
      match a, a', h, h' with
      | .str n :: a, .str n' :: a', h, h' =>
        obtain ⟨r, hr⟩ := eqCells_some (l := a) (l' := a') h h'
        simp only [eqCells, hr, Option.map_some, Option.some.injEq] at e1
        subst e1
        simp only [List.cons_append, eqCells, ih (a := a) (a' := a') h h' hr e2, Option.map_some, Bool.and_assoc]
theorem shape_len {s : List Bool} : ∀ {l : List AV}, shapeIs s l = true → l.length = s.length := by
  induction s with
  | nil => intro l h; match l, h with | [], _ => rfl
  | cons s s1 ih =>
    intro l h
    cases s with
    | true => match l, h with | .int .i64 n :: l, h => simp [ih (l := l) h]
    | false => match l, h with | .str n :: l, h => simp [ih (l := l) h]
inductive FEqs (P : Program) (d : Nat) : List Field → Nat → List Bool → Prop
  | nil (off : Nat) : FEqs P d [] off []
  | cons {f : Field} {fs : List Field} {off : Nat} {s1 s2 : List Bool} (h : FEq P d f off s1) (t : FEqs P d fs (off + s1.length) s2) : FEqs P d (f :: fs) off (s1 ++ s2)
theorem feqs_run {P : Program} {d : Nat} {fs : List Field} {off : Nat} {sh : List Bool} (h : FEqs P d fs off sh) : ∀ (xs ys l l' : List AV) (w : World) (r : Bool), xs.length = off → ys.length = off → shapeIs sh l = true → shapeIs sh l' = true → eqCells l l' = some r →
    (Op.eqFields d ((xs ++ l).map Eng.valOf).toArray ((ys ++ l').map Eng.valOf).toArray fs).run P w = .ok r w := by
  induction h with
  | nil off =>
    intro xs ys l l' w r hx hy hl hl' he
    match l, l', hl, hl' with
    | [], [], _, _ => simp [eqCells] at he; subst he; rfl
  | @cons f fs off s1 s2 hf t ih =>
    intro xs ys l l' w r hx hy hl hl' he
    obtain ⟨a, b, rfl, ha, hb⟩ := shape_split hl
    obtain ⟨a', b', rfl, ha', hb'⟩ := shape_split hl'
    obtain ⟨r1, e1⟩ := eqCells_some ha ha'
    obtain ⟨r2, e2⟩ := eqCells_some hb hb'
    rw [eqCells_append ha ha' e1 e2] at he
    cases he
    obtain ⟨u, v, h1, h2, h3⟩ := hf.run xs ys a a' b b' w r1 hx hy ha ha' e1
    rw [← List.append_assoc, ← List.append_assoc]
    simp only [Op.eqFields, if_pos hf.name, Sem.run_bind, h1, h2, h3, Result.andThen_ok]
    have ih' := ih (xs ++ a) (ys ++ a') b b' w r2 (by simp [hx, shape_len ha]) (by simp [hy, shape_len ha']) hb hb' e2
    cases r1 with
    | true => simpa using ih'
    | false => rfl
theorem feq_struct {P : Program} {d : Nat} {f : Field} {off : Nat} {sh : List Bool} (hn : f.name ≠ "_") (ho : f.offset = off) (hu : P.underlying f.type = some (.struct (P.fieldsOf f.type))) (hp : P.stoodInHeld f.type = false)
    {i : TypeInfo} (hi : P.info? f.type = some i) (hs : i.size = sh.length) (h : FEqs P d (P.fieldsOf f.type).toList 0 sh) : FEq P (d + 1) f off sh where
  name := hn
  run := fun xs ys l l' post post' w r hx hy hl hl' he => by
    have ex : ∀ (xs l post : List AV), xs.length = off → l.length = sh.length → List.take sh.length (List.drop off (List.map Eng.valOf (xs ++ l ++ post))) = List.map Eng.valOf l := by
      intro xs l post h1 h2
      rw [List.map_append, List.map_append, List.append_assoc, List.drop_left' (by simp [h1]), List.take_left' (by simp [h2])]
    refine ⟨.agg (l.map Eng.valOf).toArray, .agg (l'.map Eng.valOf).toArray, ?_, ?_, ?_⟩
    · simp only [part, isAgg, sizeOf, typeInfo, Sem.run_bind, run_underlying hu, Result.andThen_ok, run_program, hi, ho, hs]
      simpa [hi, hs] using ex xs l post hx (shape_len hl)
    · simp only [part, isAgg, sizeOf, typeInfo, Sem.run_bind, run_underlying hu, Result.andThen_ok, run_program, hi, ho, hs]
      simpa [hi, hs] using ex ys l' post' hy (shape_len hl')
    · rw [run_equalIn_struct w d f.type _ _ hu hp]
      exact feqs_run h [] [] l l' w r rfl rfl hl hl' he
theorem eqLaw_of {P : Program} {t : Nat} {sh : List Bool} (hm : P.eqGuardType P.depth t = false) (hu : P.underlying t = some (.struct (P.fieldsOf t))) (hp : P.stoodInHeld t = false) (h : FEqs P 9999 (P.fieldsOf t).toList 0 sh) : EqLaw P t sh := by
  intro x y w l l' r hl hl' he
  have e : (Op.equalIn 10000 t (.agg (l.map Eng.valOf).toArray) (.agg (l'.map Eng.valOf).toArray)).run P w = .ok r w := by
    rw [show (10000 : Nat) = 9999 + 1 from rfl, run_equalIn_struct w 9999 t _ _ hu hp]
    exact feqs_run h [] [] l l' w r rfl rfl hl hl' he
  constructor
  · simp only [eqRun, Sem.run_bind, run_eqGuard_agg w .eql t x y _ _ hm, Result.andThen_ok, run_eql_struct, e]
  · simp only [eqRun, Sem.run_bind, run_eqGuard_agg w .neq t x y _ _ hm, Result.andThen_ok, run_neq_struct, e]
theorem u3 : Tryz.prog.underlying 3 = some (.int .i64) := by kernel_rfl
theorem u9 : Tryz.prog.underlying 9 = some .string := by kernel_rfl
theorem isInt {f : Field} {t : Nat} (ht : f.type = t) (h : Tryz.prog.underlying t = some (.int .i64)) : Tryz.prog.underlying f.type = some (.int .i64) := by rw [ht]; exact h
theorem isStr {f : Field} {t : Nat} (ht : f.type = t) (h : Tryz.prog.underlying t = some .string) : Tryz.prog.underlying f.type = some .string := by rw [ht]; exact h
noncomputable def infoOf (t : Nat) : TypeInfo := (Tryz.prog.info? t).getD default
theorem fields42 (d : Nat) : FEqs Tryz.prog (d + 1) (Tryz.prog.fieldsOf 42).toList 0 [true, true, true] := by
  have e : (Tryz.prog.fieldsOf 42).toList = [((Tryz.prog.fieldsOf 42).toList.getD 0 default), ((Tryz.prog.fieldsOf 42).toList.getD 1 default), ((Tryz.prog.fieldsOf 42).toList.getD 2 default)] := by kernel_rfl
  rw [e]
  exact .cons (s1 := [true]) (feq_int (of_decide_eq_true (by kernel_rfl)) (by kernel_rfl) (by kernel_rfl)) (.cons (s1 := [true]) (feq_int (of_decide_eq_true (by kernel_rfl)) (by kernel_rfl) (by kernel_rfl)) (.cons (s1 := [true]) (feq_int (of_decide_eq_true (by kernel_rfl)) (by kernel_rfl) (by kernel_rfl)) (.nil _)))
theorem fields44 (d : Nat) : FEqs Tryz.prog (d + 1) (Tryz.prog.fieldsOf 44).toList 0 [true, false] := by
  have e : (Tryz.prog.fieldsOf 44).toList = [((Tryz.prog.fieldsOf 44).toList.getD 0 default), ((Tryz.prog.fieldsOf 44).toList.getD 1 default)] := by kernel_rfl
  rw [e]
  exact .cons (s1 := [true]) (feq_int (of_decide_eq_true (by kernel_rfl)) (by kernel_rfl) (by kernel_rfl)) (.cons (s1 := [false]) (feq_str (of_decide_eq_true (by kernel_rfl)) (by kernel_rfl) (by kernel_rfl)) (.nil _))
theorem fields46 (d : Nat) : FEqs Tryz.prog (d + 2) (Tryz.prog.fieldsOf 46).toList 0 [false, true, true, true, true, true, false, false, true, true] := by
  have e : (Tryz.prog.fieldsOf 46).toList = [((Tryz.prog.fieldsOf 46).toList.getD 0 default), ((Tryz.prog.fieldsOf 46).toList.getD 1 default), ((Tryz.prog.fieldsOf 46).toList.getD 2 default), ((Tryz.prog.fieldsOf 46).toList.getD 3 default), ((Tryz.prog.fieldsOf 46).toList.getD 4 default), ((Tryz.prog.fieldsOf 46).toList.getD 5 default), ((Tryz.prog.fieldsOf 46).toList.getD 6 default)] := by kernel_rfl
  rw [e]
  exact .cons (s1 := [false]) (feq_str (of_decide_eq_true (by kernel_rfl)) (by kernel_rfl) (by kernel_rfl)) (.cons (s1 := [true]) (feq_int (of_decide_eq_true (by kernel_rfl)) (by kernel_rfl) (by kernel_rfl)) (.cons (s1 := [true, true, true]) (feq_struct (of_decide_eq_true (by kernel_rfl)) (by kernel_rfl) (by kernel_rfl) (by kernel_rfl) (i := infoOf 42) (by kernel_rfl) (by kernel_rfl) (fields42 d)) (.cons (s1 := [true, false]) (feq_struct (of_decide_eq_true (by kernel_rfl)) (by kernel_rfl) (by kernel_rfl) (by kernel_rfl) (i := infoOf 44) (by kernel_rfl) (by kernel_rfl) (fields44 d)) (.cons (s1 := [false]) (feq_str (of_decide_eq_true (by kernel_rfl)) (by kernel_rfl) (by kernel_rfl)) (.cons (s1 := [true]) (feq_int (of_decide_eq_true (by kernel_rfl)) (by kernel_rfl) (by kernel_rfl)) (.cons (s1 := [true]) (feq_int (of_decide_eq_true (by kernel_rfl)) (by kernel_rfl) (by kernel_rfl)) (.nil _)))))))
theorem fields50 (d : Nat) : FEqs Tryz.prog (d + 1) (Tryz.prog.fieldsOf 50).toList 0 [true, true] := by
  have e : (Tryz.prog.fieldsOf 50).toList = [((Tryz.prog.fieldsOf 50).toList.getD 0 default), ((Tryz.prog.fieldsOf 50).toList.getD 1 default)] := by kernel_rfl
  rw [e]
  exact .cons (s1 := [true]) (feq_int (of_decide_eq_true (by kernel_rfl)) (by kernel_rfl) (by kernel_rfl)) (.cons (s1 := [true]) (feq_int (of_decide_eq_true (by kernel_rfl)) (by kernel_rfl) (by kernel_rfl)) (.nil _))
theorem fields58 (d : Nat) : FEqs Tryz.prog (d + 1) (Tryz.prog.fieldsOf 58).toList 0 [true, true, true, true] := by
  have e : (Tryz.prog.fieldsOf 58).toList = [((Tryz.prog.fieldsOf 58).toList.getD 0 default), ((Tryz.prog.fieldsOf 58).toList.getD 1 default), ((Tryz.prog.fieldsOf 58).toList.getD 2 default), ((Tryz.prog.fieldsOf 58).toList.getD 3 default)] := by kernel_rfl
  rw [e]
  exact .cons (s1 := [true]) (feq_int (of_decide_eq_true (by kernel_rfl)) (by kernel_rfl) (by kernel_rfl)) (.cons (s1 := [true]) (feq_int (of_decide_eq_true (by kernel_rfl)) (by kernel_rfl) (by kernel_rfl)) (.cons (s1 := [true]) (feq_int (of_decide_eq_true (by kernel_rfl)) (by kernel_rfl) (by kernel_rfl)) (.cons (s1 := [true]) (feq_int (of_decide_eq_true (by kernel_rfl)) (by kernel_rfl) (by kernel_rfl)) (.nil _))))
theorem eq42 : EqLaw Tryz.prog 42 [true, true, true] := eqLaw_of (by kernel_rfl) (by kernel_rfl) (by kernel_rfl) (fields42 9998)
theorem eq44 : EqLaw Tryz.prog 44 [true, false] := eqLaw_of (by kernel_rfl) (by kernel_rfl) (by kernel_rfl) (fields44 9998)
theorem eq50 : EqLaw Tryz.prog 50 [true, true] := eqLaw_of (by kernel_rfl) (by kernel_rfl) (by kernel_rfl) (fields50 9998)
theorem eq58 : EqLaw Tryz.prog 58 [true, true, true, true] := eqLaw_of (by kernel_rfl) (by kernel_rfl) (by kernel_rfl) (fields58 9998)
theorem eq46 : EqLaw Tryz.prog 46 [false, true, true, true, true, true, false, false, true, true] := eqLaw_of (by kernel_rfl) (by kernel_rfl) (by kernel_rfl) (fields46 9997)
theorem eqs_ok : ∀ p ∈ EQT, EqLaw Tryz.prog p.1 p.2 := by
  simp only [EQT, List.forall_mem_cons]
  exact ⟨eq42, eq44, eq46, eq50, eq58, fun _ h => nomatch h⟩
theorem env_ok (m : Int) (Γ : List (Nat × Con)) (hΓ : ∀ p ∈ Γ, FnOk Tryz.prog (GG m) p.1 p.2) : AllOk (env m Γ) where
  env := ⟨TT_ok, eqs_ok⟩
  cons := hΓ
theorem mixed : Tryz.prog.follows .mixedOrders = true := by kernel_rfl
theorem fn_ok {m : Int} {Γ : List (Nat × Con)} (hΓ : ∀ p ∈ Γ, FnOk Tryz.prog (GG m) p.1 p.2) {f : Nat} {fn : Func} (hf : Tryz.prog.funcs[f]? = some fn) (hk : okFn fn = true) {C : Con} (INV : List AV → List (Nat × Inv))
    (h : ∀ xs r, (C xs).run = some r → xs.all pers = true → Runs m Γ fn (INV xs) xs r) : FnOk Tryz.prog (GG m) f C := by
  simp only [okFn, Bool.and_eq_true, Bool.not_eq_true', beq_eq_false_iff_ne, ne_eq] at hk
  obtain ⟨⟨h1, h2⟩, h3⟩ := hk
  have hb : fn.body = some (bodyOf fn) := by
    unfold bodyOf
    cases hb : fn.body with
    | none => rw [hb] at h1; cases h1
    | some c => rfl
  exact fnOk_of_awp (E := env m Γ) (env_ok m Γ hΓ) mixed hf hb h2 h3 INV h
end Go.Proofs.YtgcnbicoajjlaaaGreatDoor
end
section
set_option linter.unusedVariables false
set_option linter.unusedSimpArgs false
set_option maxRecDepth 100000
namespace Go.Proofs.YtgcnbicoajjlaaaGreatDoor
open Go Go.Eng Go.Tx
def Args : List AV → List AV → Prop
  | [], [] => True
  | y :: ys, x :: xs => (y = x ∨ (pers y = true ∧ rdOk y = true ∧ eqv y x)) ∧ Args ys xs
  | _, _ => False
theorem pers_A {v : AV} (h : pers v = true) : persA v = true := by
  have := pers_T h
  cases v <;> first | exact this | cases h
theorem args_rel {w : World} {st : Stab} : ∀ {ys xs : List AV} {vals : List Value}, Args ys xs → xs.all pers = true → All2 (R2 w st noρ) xs vals → All2 (R2 w st noρ) ys vals ∧ ys.all pers = true
  | [], [], _, _, _, h => by cases h; exact ⟨.nil, rfl⟩
  | y :: ys, x :: xs, _, ha, hp, h => by
    cases h with
    | cons h t =>
      simp only [List.all_cons, Bool.and_eq_true] at hp
      obtain ⟨i1, i2⟩ := args_rel ha.2 hp.2 t
      rcases ha.1 with rfl | ⟨h1, h2, h3⟩
      · exact ⟨.cons h i1, by simp [hp.1, i2]⟩
      · have hx : R3 w st noρ x _ := (by cases x <;> first | exact h | exact h.elim)
        exact ⟨.cons (R3_R2 (pers_A h1) (eqv_up (pers_A h1) h2 h3 hx)) i1, by simp [h1, i2]⟩
  | [], _ :: _, _, ha, _, _ => ha.elim
  | _ :: _, [], _, ha, _, _ => ha.elim
def bnd1 : AV → Prop
  | .sl _ _ n _ => n ≤ maxLen
  | _ => True
def bndL : List AV → Prop
  | [] => True
  | x :: xs => bnd1 x ∧ bndL xs
def bndA : AV → Prop
  | .agg l => bndL l
  | v => bnd1 v
def Small : List AV → Prop
  | [] => True
  | x :: xs => bndA x ∧ Small xs
theorem bnd1_of {w : World} {st : Stab} {ρ : Nat → Eng.Loc} {x : AV} {v : Value} (h : R1 w st ρ x v) : bnd1 x := by
  cases x <;> first | trivial | skip
  obtain ⟨a, c, b, o, vals, rfl, q1, q2, q3, _⟩ := R3_sl (ρ := noρ) (show PV w st _ v from h)
  show _ ≤ _
  omega
theorem bndL_of {w : World} {st : Stab} {ρ : Nat → Eng.Loc} : ∀ {l : List AV} {cs : List Value}, All2 (R1 w st ρ) l cs → bndL l
  | [], _, _ => trivial
  | x :: l, _, h => by cases h with | cons h t => exact ⟨bnd1_of h, bndL_of t⟩
theorem small_of {w : World} {st : Stab} {ρ : Nat → Eng.Loc} : ∀ {l : List AV} {cs : List Value}, All2 (R2 w st ρ) l cs → Small l
  | [], _, _ => trivial
  | x :: l, _, h => by
    cases h with
    | cons h t =>
      refine ⟨?_, small_of t⟩
      cases x
      case agg l => exact h.elim fun cs h => bndL_of h.2.1
      case clo => trivial
      case ifc => trivial
      all_goals (simp only [R2] at h; exact bnd1_of h)
theorem len_small1 {sz n : Nat} {f : Nat → List AV} {v : AV} (h : eqv (.sl false sz n f) v) (hb : bnd1 v) : n ≤ maxLen := by
  cases v
  case nilS => have hn : n = 0 := h; omega
  case sl fl sz' n' f' =>
    have h' : (bif Nat.beq sz sz' then n' = n ∧ ∀ i, i < n → f' i = f i else False) := h
    simp only [cond_eq_ite] at h'
    split at h'
    · have : n' ≤ maxLen := hb
      omega
    · exact h'.elim
  all_goals exact h.elim
theorem len_small {sz n : Nat} {f : Nat → List AV} {v : AV} (h : eqv (.sl false sz n f) v) (hb : bndA v) : n ≤ maxLen := by
  refine len_small1 h ?_
  cases v <;> first | exact hb | trivial
theorem fn_ok2 {m : Int} {Γ : List (Nat × Con)} (hΓ : ∀ p ∈ Γ, FnOk Tryz.prog (GG m) p.1 p.2) {f : Nat} {fn : Func} (hf : Tryz.prog.funcs[f]? = some fn) (hk : okFn fn = true) {C : Con}
    (h : ∀ xs r, (C xs).run = some r → Small xs → ∃ ys INV, Args ys xs ∧ Runs m Γ fn INV ys r) : FnOk Tryz.prog (GG m) f C := by
  intro xs r hr hp w st vals hsta hg hargs
  obtain ⟨ys, INV, ha, hR⟩ := h xs r hr (small_of hargs)
  obtain ⟨h1, h2⟩ := args_rel ha hp hargs
  have := fn_ok hΓ hf hk (C := fun zs => .need (zs = ys) (.ret r)) (fun _ => INV) (fun zs r' hr' hp' => by
    obtain ⟨hz, h'⟩ := Tr.run_need hr'
    have hr := Tr.run_ret h'
    subst hz
    subst hr
    exact hR)
  exact this ys r (by simp [Tr.run]) h2 w st vals hsta hg h1
theorem Ob_iff (p : Prop) : Ob p ↔ p := ⟨Ob.out, Ob.mk⟩
theorem of_nice {p : Prop} (q : Prop) (h : p = q) (hq : q) : p := h ▸ hq
noncomputable def decS {α : Type} (dec : List AV → α) : AV → List α
  | .sl _ _ n f => (List.range n).map fun i => dec (f i)
  | _ => []
theorem decS_eqv {α : Type} {enc : α → List AV} {d : α} {dec : List AV → α} (hd : ∀ a, dec (enc a) = a) {sz : Nat} {l : List α} {v : AV} (h : eqv (.sl false sz l.length (fun i => enc (l.getD i d))) v) : decS dec v = l := by
  have key : ∀ (n : Nat) (f : Nat → List AV), n = l.length → (∀ i, i < l.length → f i = enc (l.getD i d)) → (List.range n).map (fun i => dec (f i)) = l := by
    intro n f hn hf
    subst hn
    apply List.ext_getElem
    · simp
    · intro i h1 h2
      simp only [List.getElem_map, List.getElem_range]
      rw [hf i h2, hd, List.getD_eq_getElem?_getD, List.getElem?_eq_getElem h2]
      rfl
  cases v
  case nilS =>
    have hl : l.length = 0 := h
    rw [List.length_eq_zero_iff.1 hl]
    rfl
  case sl fl sz' n f =>
    have h' : (bif Nat.beq sz sz' then n = l.length ∧ ∀ i, i < l.length → f i = enc (l.getD i d) else False) := h
    simp only [cond_eq_ite] at h'
    split at h'
    · exact key n f h'.1 h'.2
    · exact h'.elim
  all_goals exact h.elim
noncomputable def dInt : List AV → Int | [.int _ n] => n | _ => 0
noncomputable def dStr : List AV → Str | [.str s] => s | _ => []
noncomputable def dTy : List AV → Ty | [.int _ a, .int _ b, .int _ c] => ⟨a, b, c⟩ | _ => ty0
noncomputable def dOpd : List AV → Opd | [.str a, .int _ b, .int _ c, .int _ d, .int _ e, .int _ f, .str g, .str h, .int _ i, .int _ j] => ⟨a, b, ⟨c, d, e⟩, f, g, h, i, j⟩ | _ => opd0
noncomputable def dMon : List AV → Mon | [.int _ a, .int _ b, .int _ c, .int _ d] => ⟨a, b, c, d⟩ | _ => mon0
noncomputable def ints : AV → List Int := decS dInt
noncomputable def strs : AV → List Str := decS dStr
noncomputable def dIns : List AV → Ins | [.int _ a, v] => ⟨a, ints v⟩ | _ => ins0
noncomputable def dLn : List AV → Ln | [.int _ a, .int _ b, c1, c2, c3, c4, c5, c6, c7, c8, c9, c10, .int _ d, e, m1, m2, m3, m4] => ⟨a, b, dOpd [c1, c2, c3, c4, c5, c6, c7, c8, c9, c10], d, strs e, dMon [m1, m2, m3, m4]⟩ | _ => ln0
noncomputable def cTy (t : Ty) : List AV := [.int .i64 t.k, .int .i64 t.l, .int .i64 t.s]
noncomputable def cells : AV → List AV | .agg l => l | _ => []
noncomputable def aOpd (o : Opd) : AV := .agg (cOpd o)
noncomputable def aTy (t : Ty) : AV := .agg (cTy t)
noncomputable def aIns (x : Ins) : AV := .agg (cIns x)
noncomputable def aMon (x : Mon) : AV := .agg (cMon x)
noncomputable def opdOf (v : AV) : Opd := dOpd (cells v)
noncomputable def tyOf (v : AV) : Ty := dTy (cells v)
noncomputable def monOf (v : AV) : Mon := dMon (cells v)
theorem ints_eqv {l : List Int} {v : AV} (h : eqv (slInts l) v) : ints v = l := decS_eqv (enc := cInt) (fun _ => rfl) h
theorem strs_eqv {l : List Str} {v : AV} (h : eqv (slStrs l) v) : strs v = l := decS_eqv (enc := cStr) (fun _ => rfl) h
theorem slInts_refl (l : List Int) : eqv (slInts l) (slInts l) := ⟨rfl, fun _ _ => rfl⟩
theorem slStrs_refl (l : List Str) : eqv (slStrs l) (slStrs l) := ⟨rfl, fun _ _ => rfl⟩
theorem ints_sl (l : List Int) : ints (slInts l) = l := ints_eqv (slInts_refl l)
theorem strs_sl (l : List Str) : strs (slStrs l) = l := strs_eqv (slStrs_refl l)
theorem dIns_c (x : Ins) : dIns (cIns x) = x := by
  show (⟨x.op, ints (slInts x.args)⟩ : Ins) = x
  rw [ints_sl]
theorem dLn_c (x : Ln) : dLn (cLn x) = x := by
  show (⟨x.at_, x.part, x.opd, x.op, strs (slStrs x.args), x.mon⟩ : Ln) = x
  rw [strs_sl]
noncomputable def opdsOf : AV → List Opd := decS dOpd
noncomputable def insOf : AV → List Ins := decS dIns
noncomputable def monsOf : AV → List Mon := decS dMon
noncomputable def lnsOf : AV → List Ln := decS dLn
theorem opds_eqv {l : List Opd} {v : AV} (h : eqv (slOpds l) v) : opdsOf v = l := decS_eqv (enc := cOpd) (fun _ => rfl) h
theorem ins_eqv {l : List Ins} {v : AV} (h : eqv (slIns l) v) : insOf v = l := decS_eqv (enc := cIns) dIns_c h
theorem mons_eqv {l : List Mon} {v : AV} (h : eqv (slMons l) v) : monsOf v = l := decS_eqv (enc := cMon) (fun _ => rfl) h
theorem lns_eqv {l : List Ln} {v : AV} (h : eqv (slLns l) v) : lnsOf v = l := decS_eqv (enc := cLn) dLn_c h
theorem slOpds_refl (l : List Opd) : eqv (slOpds l) (slOpds l) := ⟨rfl, fun _ _ => rfl⟩
theorem slIns_refl (l : List Ins) : eqv (slIns l) (slIns l) := ⟨rfl, fun _ _ => rfl⟩
theorem slMons_refl (l : List Mon) : eqv (slMons l) (slMons l) := ⟨rfl, fun _ _ => rfl⟩
theorem slLns_refl (l : List Ln) : eqv (slLns l) (slLns l) := ⟨rfl, fun _ _ => rfl⟩
theorem opds_sl (l : List Opd) : opdsOf (slOpds l) = l := opds_eqv (slOpds_refl l)
theorem ins_sl (l : List Ins) : insOf (slIns l) = l := ins_eqv (slIns_refl l)
theorem mons_sl (l : List Mon) : monsOf (slMons l) = l := mons_eqv (slMons_refl l)
theorem lns_sl (l : List Ln) : lnsOf (slLns l) = l := lns_eqv (slLns_refl l)
theorem asSl_ints (l : List Int) : eqv (slInts l) (asSl 1 (l.map cInt)) := by
  refine ⟨by simp, fun i hi => ?_⟩
  show ((l.map cInt).getD i []) = _
  rw [List.getD_eq_getElem?_getD, List.getElem?_map, List.getElem?_eq_getElem hi]
  show cInt l[i] = [AV.int .i64 (l.getD i 0)]
  rw [List.getD_eq_getElem?_getD, List.getElem?_eq_getElem hi]; rfl
theorem tyOf_c (t : Ty) : tyOf (AV.agg [AV.int IntKind.i64 t.k, AV.int IntKind.i64 t.l, AV.int IntKind.i64 t.s]) = t := rfl
theorem opdOf_c (o : Opd) : opdOf (AV.agg [.str o.name, .int .i64 o.kind, .int .i64 o.ty.k, .int .i64 o.ty.l, .int .i64 o.ty.s, .int .i64 o.n, .str o.v, .str o.base, .int .i64 o.off, .int .i64 o.tgt]) = o := rfl
theorem aTy_c (t : Ty) : AV.agg [AV.int IntKind.i64 t.k, AV.int IntKind.i64 t.l, AV.int IntKind.i64 t.s] = aTy t := rfl
theorem aOpd_c (o : Opd) : AV.agg [.str o.name, .int .i64 o.kind, .int .i64 o.ty.k, .int .i64 o.ty.l, .int .i64 o.ty.s, .int .i64 o.n, .str o.v, .str o.base, .int .i64 o.off, .int .i64 o.tgt] = aOpd o := rfl
theorem tyOf_a (t : Ty) : tyOf (aTy t) = t := rfl
theorem opdOf_a (o : Opd) : opdOf (aOpd o) = o := rfl
theorem aMon_c (o : Mon) : AV.agg [.int .i64 o.fr, .int .i64 o.to, .int .i64 o.ex, .int .i64 o.hd] = aMon o := rfl
theorem monOf_c (o : Mon) : monOf (aMon o) = o := rfl
theorem ints2_c (a b : Int) : ints (AV.sl true 1 2 fun i => List.take 1 (List.drop (i * 1) [AV.int IntKind.i64 a, AV.int IntKind.i64 b])) = [a, b] := rfl
theorem ints4_c (a b c d : Int) : ints (AV.sl true 1 4 fun i => List.take 1 (List.drop (i * 1) [AV.int IntKind.i64 a, AV.int IntKind.i64 b, AV.int IntKind.i64 c, AV.int IntKind.i64 d])) = [a, b, c, d] := rfl
theorem slInts_f (l : List Int) : (AV.sl false 1 l.length fun i => [AV.int .i64 (l.getD i 0)]) = slInts l := rfl
theorem slStrs_f (l : List Str) : (AV.sl false 1 l.length fun i => [AV.str (l.getD i [])]) = slStrs l := rfl
theorem slOpds_f (l : List Opd) : (AV.sl false 10 l.length fun i => cOpd (l.getD i opd0)) = slOpds l := rfl
theorem slIns_f (l : List Ins) : (AV.sl false 2 l.length fun i => cIns (l.getD i ins0)) = slIns l := rfl
theorem slMons_f (l : List Mon) : (AV.sl false 4 l.length fun i => cMon (l.getD i mon0)) = slMons l := rfl
theorem slLns_f (l : List Ln) : (AV.sl false 18 l.length fun i => cLn (l.getD i ln0)) = slLns l := rfl
noncomputable def slBytes (s : Str) : AV := .sl false 1 s.length (strSl s)
theorem slBytes_f (s : Str) : (AV.sl false 1 s.length (strSl s)) = slBytes s := rfl
theorem aPrg_f (p : Prg) : AV.agg [slOpds p.ops, slIns p.ins, slMons p.mons] = aPrg p := rfl
noncomputable def aVal (n : Int) (s : Str) : AV := .agg [.int .i64 n, .str s]
noncomputable def vN : AV → Int | .agg [.int _ n, _] => n | _ => 0
noncomputable def vS : AV → Str | .agg [_, .str s] => s | _ => []
theorem aVal_c (n : Int) (s : Str) : AV.agg [.int .i64 n, .str s] = aVal n s := rfl
theorem vN_c (n : Int) (s : Str) : vN (aVal n s) = n := rfl
theorem vS_c (n : Int) (s : Str) : vS (aVal n s) = s := rfl
theorem bor_c (a b : Bool) : (bif a then true else b) = (a || b) := rfl
theorem band_c (a b : Bool) : (bif a then b else false) = (a && b) := by kernel_rfl
theorem nilBytes : (ByteArray.mk #[]).data.toList = [] := rfl
end Go.Proofs.YtgcnbicoajjlaaaGreatDoor
end
section
set_option linter.unusedVariables false
set_option linter.unusedSimpArgs false
set_option maxRecDepth 100000
namespace Go.Proofs.YtgcnbicoajjlaaaGreatDoor
open Go Go.Eng Go.Tx
abbrev Ok (m : Int) (f : Nat) (C : Con) : Prop := FnOk Tryz.prog (GG m) f C
abbrev Cons (m : Int) (Γ : List (Nat × Con)) : Prop := ∀ p ∈ Γ, FnOk Tryz.prog (GG m) p.1 p.2
theorem cons_nil {m : Int} : Cons m [] := fun _ h => nomatch h
theorem cons_cons {m : Int} {f : Nat} {C : Con} {Γ : List (Nat × Con)} (h : Ok m f C) (t : Cons m Γ) : Cons m ((f, C) :: Γ) := fun p hp => by
  rcases List.mem_cons.1 hp with rfl | hp
  · exact h
  · exact t p hp
theorem args_self : ∀ (xs : List AV), Args xs xs
  | [] => trivial
  | x :: xs => ⟨.inl rfl, args_self xs⟩
variable {m : Int}
noncomputable def Ccond : Con
  | [.prop b, .int .i64 e] => .ret (.int .i64 (bif b then e else 0))
  | _ => .fail
theorem ok62 : Ok m 62 Ccond := fn_ok2 cons_nil Tryz.func62 (by kernel_rfl) fun xs r hr hp => by
  unfold Ccond at hr
  split at hr
  · rename_i b e
    obtain rfl := Tr.run_ret hr
    refine ⟨_, [], args_self _, of_nice ((b = true → e = bif b then e else 0) ∧ (b = false → 0 = bif b then e else 0)) (by kernel_rfl) ?_⟩
    cases b <;> simp
  · exact (Tr.run_fail hr).elim
theorem ok125 : Ok m 125 Ccond := fn_ok2 cons_nil Tryz.func125 (by kernel_rfl) fun xs r hr hp => by
  unfold Ccond at hr
  split at hr
  · rename_i b e
    obtain rfl := Tr.run_ret hr
    refine ⟨_, [], args_self _, of_nice ((b = true → e = bif b then e else 0) ∧ (b = false → 0 = bif b then e else 0)) (by kernel_rfl) ?_⟩
    cases b <;> simp
  · exact (Tr.run_fail hr).elim
noncomputable def Cin : Con
  | [.int .i64 n, .int .i64 a, .int .i64 b] => .ret (.prop (decide (a ≤ n) && decide (n ≤ b)))
  | _ => .fail
theorem ok91 : Ok m 91 Cin := fn_ok2 cons_nil Tryz.func91 (by kernel_rfl) fun xs r hr hp => by
  unfold Cin at hr
  split at hr
  · rename_i n a b
    obtain rfl := Tr.run_ret hr
    refine ⟨_, [], args_self _, of_nice ((bif decide (a ≤ n) then decide (n ≤ b) else false) = (decide (a ≤ n) && decide (n ≤ b))) (by kernel_rfl) ?_⟩
    cases decide (a ≤ n) <;> rfl
  · exact (Tr.run_fail hr).elim
theorem ok123 : Ok m 123 Cin := fn_ok2 cons_nil Tryz.func123 (by kernel_rfl) fun xs r hr hp => by
  unfold Cin at hr
  split at hr
  · rename_i n a b
    obtain rfl := Tr.run_ret hr
    refine ⟨_, [], args_self _, of_nice ((bif decide (a ≤ n) then decide (n ≤ b) else false) = (decide (a ≤ n) && decide (n ≤ b))) (by kernel_rfl) ?_⟩
    cases decide (a ≤ n) <;> rfl
  · exact (Tr.run_fail hr).elim
theorem ok6 : Ok m 6 Cin := fn_ok2 cons_nil Tryz.func6 (by kernel_rfl) fun xs r hr hp => by
  unfold Cin at hr
  split at hr
  · rename_i n a b
    obtain rfl := Tr.run_ret hr
    refine ⟨_, [], args_self _, of_nice ((bif decide (a ≤ n) then decide (n ≤ b) else false) = (decide (a ≤ n) && decide (n ≤ b))) (by kernel_rfl) ?_⟩
    cases decide (a ≤ n) <;> rfl
  · exact (Tr.run_fail hr).elim
noncomputable def firstNZ : List Int → Int
  | [] => 0
  | a :: r => if a = 0 then firstNZ r else a
theorem firstNZ_drop {l : List Int} {i : Nat} (hi : i < l.length) (h : firstNZ (l.drop i) = firstNZ l) : (l.getD i 0 ≠ 0 → firstNZ l = l.getD i 0) ∧ (l.getD i 0 = 0 → firstNZ (l.drop (i + 1)) = firstNZ l) := by
  rw [← h, List.drop_eq_getElem_cons hi, List.getD_eq_getElem?_getD, List.getElem?_eq_getElem hi]
  simp only [Option.getD_some, firstNZ]
  constructor
  · intro hn; rw [if_neg hn]
  · intro hn; rw [if_pos hn]
noncomputable def Cfirst : Con
  | [v] => .need (∃ l, eqv (slInts l) v) (.ret (.int .i64 (firstNZ (ints v))))
  | _ => .fail
noncomputable def invFirst (l : List Int) : Eng.Inv :=
  ⟨{ i : Nat // i ≤ l.length ∧ firstNZ (l.drop i) = firstNZ l }, fun i => [(5, slInts l), (6, I l.length), (7, I i.1)], fun _ => [], fun i => l.length - i.1⟩
theorem ok61 : Ok m 61 Cfirst := fn_ok2 cons_nil Tryz.func61 (by kernel_rfl) fun xs r hr hp => by
  unfold Cfirst at hr
  split at hr
  · rename_i v
    obtain ⟨⟨l, hl⟩, hr⟩ := Tr.run_need hr
    obtain rfl := Tr.run_ret hr
    rw [ints_eqv hl]
    refine ⟨[slInts l], [(0, invFirst l)], ⟨.inr ⟨rfl, rfl, hl⟩, trivial⟩, ?_⟩
    refine And.intro ⟨⟨0, by simp, rfl⟩, ⟨rfl, fun _ _ => rfl⟩, rfl, rfl, trivial⟩ ?_
    rintro ⟨i, hi, hd⟩
    constructor
    · intro h
      have h : i < l.length := by simpa using h
      obtain ⟨f1, f2⟩ := firstNZ_drop h hd
      refine And.intro ⟨by omega, by show (i : Int) < l.length; omega⟩ ?_
      constructor
      · intro hn
        show l.getD (i : Int).toNat 0 = firstNZ l
        exact (f1 (by simpa using hn)).symm
      · intro hn
        have hb := len_small hl hp.1
        refine And.intro ⟨show inI64 ((i : Int) + 1) from by unfold maxLen at hb; constructor <;> omega⟩ ?_
        exact ⟨⟨i + 1, h, f2 (by simpa using hn)⟩, show l.length - (i + 1) < l.length - i by omega, ⟨rfl, fun _ _ => rfl⟩, rfl, rfl, trivial⟩
    · intro h
      have h : ¬ i < l.length := by simpa using h
      show (0 : Int) = firstNZ l
      rw [← hd, List.drop_eq_nil_of_le (by omega)]
      rfl
  · exact (Tr.run_fail hr).elim
theorem ok124 : Ok m 124 Cfirst := fn_ok2 cons_nil Tryz.func124 (by kernel_rfl) fun xs r hr hp => by
  unfold Cfirst at hr
  split at hr
  · rename_i v
    obtain ⟨⟨l, hl⟩, hr⟩ := Tr.run_need hr
    obtain rfl := Tr.run_ret hr
    rw [ints_eqv hl]
    refine ⟨[slInts l], [(0, invFirst l)], ⟨.inr ⟨rfl, rfl, hl⟩, trivial⟩, ?_⟩
    refine And.intro ⟨⟨0, by simp, rfl⟩, ⟨rfl, fun _ _ => rfl⟩, rfl, rfl, trivial⟩ ?_
    rintro ⟨i, hi, hd⟩
    constructor
    · intro h
      have h : i < l.length := by simpa using h
      obtain ⟨f1, f2⟩ := firstNZ_drop h hd
      refine And.intro ⟨by omega, by show (i : Int) < l.length; omega⟩ ?_
      constructor
      · intro hn
        show l.getD (i : Int).toNat 0 = firstNZ l
        exact (f1 (by simpa using hn)).symm
      · intro hn
        have hb := len_small hl hp.1
        refine And.intro ⟨show inI64 ((i : Int) + 1) from by unfold maxLen at hb; constructor <;> omega⟩ ?_
        exact ⟨⟨i + 1, h, f2 (by simpa using hn)⟩, show l.length - (i + 1) < l.length - i by omega, ⟨rfl, fun _ _ => rfl⟩, rfl, rfl, trivial⟩
    · intro h
      have h : ¬ i < l.length := by simpa using h
      show (0 : Int) = firstNZ l
      rw [← hd, List.drop_eq_nil_of_le (by omega)]
      rfl
  · exact (Tr.run_fail hr).elim
end Go.Proofs.YtgcnbicoajjlaaaGreatDoor
end
section
set_option linter.unusedVariables false
set_option linter.unusedSimpArgs false
set_option maxRecDepth 100000
namespace Go.Proofs.YtgcnbicoajjlaaaGreatDoor
open Go Go.Eng Go.Tx
variable {m : Int}
theorem leafE {α : Sort _} {a b : α} (h : a = b) : a = b := h
theorem eq2 {a b : Int} {f : Nat → List AV} (h0 : f 0 = [.int .i64 a]) (h1 : f 1 = [.int .i64 b]) : ∃ l, eqv (slInts l) (.sl true 1 2 f) :=
  ⟨[a, b], rfl, fun i hi => by match i, hi with | 0, _ => exact h0 | 1, _ => exact h1⟩
theorem eq4 {a b c d : Int} {f : Nat → List AV} (h0 : f 0 = [.int .i64 a]) (h1 : f 1 = [.int .i64 b]) (h2 : f 2 = [.int .i64 c]) (h3 : f 3 = [.int .i64 d]) : ∃ l, eqv (slInts l) (.sl true 1 4 f) :=
  ⟨[a, b, c, d], rfl, fun i hi => by match i, hi with | 0, _ => exact h0 | 1, _ => exact h1 | 2, _ => exact h2 | 3, _ => exact h3⟩
theorem ints2 (f : Nat → List AV) : ints (.sl true 1 2 f) = [dInt (f 0), dInt (f 1)] := rfl
theorem ints4 (f : Nat → List AV) : ints (.sl true 1 4 f) = [dInt (f 0), dInt (f 1), dInt (f 2), dInt (f 3)] := rfl
theorem type_facts {t : Ty} (h : typeErr t = 0) : 0 ≤ t.k ∧ t.k ≤ 4 ∧ (t.k = 0 → 1 ≤ t.l ∧ t.s = 0) ∧ ((t.k = 1 ∨ t.k = 2) → 1 ≤ t.l ∧ t.l ≤ 15) ∧ (t.k = 3 → t.l = 4 ∨ t.l = 9) ∧ (t.k = 4 → t.l = 0) ∧ 0 ≤ t.s ∧ t.s ≤ 15 ∧ 0 ≤ t.l ∧ t.l ≤ 256 := by
  unfold typeErr at h
  by_cases h1 : ¬ (0 ≤ t.k ∧ t.k ≤ 4)
  · rw [if_pos h1] at h; cases h
  · rw [if_neg h1] at h
    by_cases h2 : lenOk t = false
    · rw [if_pos h2] at h; cases h
    · rw [if_neg h2] at h
      by_cases h3 : 0 ≤ t.s ∧ t.s ≤ (if 1 ≤ t.k ∧ t.k ≤ 3 then t.l else 0)
      · simp only [Bool.not_eq_false] at h2
        have hk : t.k = 0 ∨ t.k = 1 ∨ t.k = 2 ∨ t.k = 3 ∨ t.k = 4 := by omega
        rcases hk with hk | hk | hk | hk | hk <;> simp [lenOk, hk] at h2 h3 <;> omega
      · rw [if_neg h3] at h; cases h
noncomputable def Ccount : Con
  | [.prop b] => .ret (.int .i64 (bif b then 1 else 0))
  | _ => .fail
theorem ok89 : Ok m 89 Ccount := fn_ok2 cons_nil Tryz.func89 (by kernel_rfl) fun xs r hr hp => by
  unfold Ccount at hr
  split at hr
  · rename_i b
    obtain rfl := Tr.run_ret hr
    refine ⟨_, [], args_self _, of_nice ((b = true → 1 = bif b then (1 : Int) else 0) ∧ (b = false → 0 = bif b then (1 : Int) else 0)) (by kernel_rfl) ?_⟩
    cases b <;> simp
  · exact (Tr.run_fail hr).elim
noncomputable def CisUpper : Con
  | [.int .u8 n] => .ret (.prop (decide (65 ≤ n) && decide (n ≤ 90)))
  | _ => .fail
theorem ok86 : Ok m 86 CisUpper := fn_ok2 cons_nil Tryz.func86 (by kernel_rfl) fun xs r hr hp => by
  unfold CisUpper at hr
  split at hr
  · rename_i n
    obtain rfl := Tr.run_ret hr
    refine ⟨_, [], args_self _, of_nice ((bif decide (65 ≤ n) then decide (n ≤ 90) else false) = (decide (65 ≤ n) && decide (n ≤ 90))) (by kernel_rfl) ?_⟩
    cases decide (65 ≤ n) <;> rfl
  · exact (Tr.run_fail hr).elim
noncomputable def CisDigit : Con
  | [.int .u8 n] => .ret (.prop (decide (48 ≤ n) && decide (n ≤ 57)))
  | _ => .fail
theorem ok87 : Ok m 87 CisDigit := fn_ok2 cons_nil Tryz.func87 (by kernel_rfl) fun xs r hr hp => by
  unfold CisDigit at hr
  split at hr
  · rename_i n
    obtain rfl := Tr.run_ret hr
    refine ⟨_, [], args_self _, of_nice ((bif decide (48 ≤ n) then decide (n ≤ 57) else false) = (decide (48 ≤ n) && decide (n ≤ 57))) (by kernel_rfl) ?_⟩
    cases decide (48 ≤ n) <;> rfl
  · exact (Tr.run_fail hr).elim
noncomputable def CisData : Con
  | [v] => .need (v = aOpd (opdOf v)) (.ret (.prop (isData (opdOf v).kind)))
  | _ => .fail
theorem ok93 : Ok m 93 CisData := fn_ok2 cons_nil Tryz.func93 (by kernel_rfl) fun xs r hr hp => by
  unfold CisData at hr
  split at hr
  · rename_i v
    obtain ⟨hv, hr⟩ := Tr.run_need hr
    obtain rfl := Tr.run_ret hr
    generalize opdOf v = o at *
    subst hv
    refine ⟨_, [], args_self _, leafE ?_⟩
    simp only [isData, cond_eq_ite]
    by_cases h0 : o.kind = 0 <;> by_cases h1 : o.kind = 1 <;> by_cases h2 : o.kind = 2 <;> by_cases h4 : o.kind = 4 <;> simp [h0, h1, h2, h4]
  · exact (Tr.run_fail hr).elim
noncomputable def CnotChar : Con
  | [v] => .need (v = aOpd (opdOf v)) (.ret (.prop (!decide ((opdOf v).ty.k = 0))))
  | _ => .fail
theorem ok129 : Ok m 129 CnotChar := fn_ok2 cons_nil Tryz.func129 (by kernel_rfl) fun xs r hr hp => by
  unfold CnotChar at hr
  split at hr
  · rename_i v
    obtain ⟨hv, hr⟩ := Tr.run_need hr
    obtain rfl := Tr.run_ret hr
    generalize opdOf v = o at *
    subst hv
    exact ⟨_, [], args_self _, leafE rfl⟩
  · exact (Tr.run_fail hr).elim
noncomputable def CisNumK : Con
  | [.int .i64 k] => .ret (.prop (decide (1 ≤ k) && decide (k ≤ 3)))
  | _ => .fail
theorem ok88 : Ok m 88 CisNumK := fn_ok2 (cons_cons ok6 cons_nil) Tryz.func88 (by kernel_rfl) fun xs r hr hp => by
  unfold CisNumK at hr
  split at hr
  · rename_i k
    obtain rfl := Tr.run_ret hr
    exact ⟨_, [], args_self _, leafE rfl⟩
  · exact (Tr.run_fail hr).elim
noncomputable def CisNumO : Con
  | [v] => .need (v = aOpd (opdOf v)) (.ret (.prop (decide (1 ≤ (opdOf v).ty.k) && decide ((opdOf v).ty.k ≤ 3))))
  | _ => .fail
theorem ok60 : Ok m 60 CisNumO := fn_ok2 (cons_cons ok88 cons_nil) Tryz.func60 (by kernel_rfl) fun xs r hr hp => by
  unfold CisNumO at hr
  split at hr
  · rename_i v
    obtain ⟨hv, hr⟩ := Tr.run_need hr
    obtain rfl := Tr.run_ret hr
    generalize opdOf v = o at *
    subst hv
    exact ⟨_, [], args_self _, leafE rfl⟩
  · exact (Tr.run_fail hr).elim
noncomputable def isScalarK (k : Int) : Bool := decide (k = 0 ∨ k = 1 ∨ k = 2)
noncomputable def CisScalar : Con
  | [.int .i64 k] => .ret (.prop (isScalarK k))
  | _ => .fail
theorem ok59 : Ok m 59 CisScalar := fn_ok2 cons_nil Tryz.func59 (by kernel_rfl) fun xs r hr hp => by
  unfold CisScalar at hr
  split at hr
  · rename_i k
    obtain rfl := Tr.run_ret hr
    refine ⟨_, [], args_self _, leafE ?_⟩
    simp only [isScalarK, cond_eq_ite]
    by_cases h0 : k = 0 <;> by_cases h1 : k = 1 <;> by_cases h2 : k = 2 <;> simp [h0, h1, h2]
  · exact (Tr.run_fail hr).elim
noncomputable def CisDataK : Con
  | [.int .i64 k] => .ret (.prop (isData k))
  | _ => .fail
theorem ok54 : Ok m 54 CisDataK := fn_ok2 (cons_cons ok59 cons_nil) Tryz.func54 (by kernel_rfl) fun xs r hr hp => by
  unfold CisDataK at hr
  split at hr
  · rename_i k
    obtain rfl := Tr.run_ret hr
    refine ⟨_, [], args_self _, leafE ?_⟩
    simp only [isScalarK, isData, cond_eq_ite]
    by_cases h0 : k = 0 <;> by_cases h1 : k = 1 <;> by_cases h2 : k = 2 <;> by_cases h4 : k = 4 <;> simp [h0, h1, h2, h4]
  · exact (Tr.run_fail hr).elim
noncomputable def Csize : Con
  | [v] => .need (v = aTy (tyOf v) ∧ typeErr (tyOf v) = 0) (.ret (.int .i64 (size (tyOf v))))
  | _ => .fail
theorem ok153 : Ok m 153 Csize := fn_ok2 cons_nil Tryz.func153 (by kernel_rfl) fun xs r hr hp => by
  unfold Csize at hr
  split at hr
  · rename_i v
    obtain ⟨⟨hv, ht⟩, hr⟩ := Tr.run_need hr
    obtain rfl := Tr.run_ret hr
    generalize tyOf v = t at *
    subst hv
    clear hr hp
    obtain ⟨f1, f2, f3, f4, f5, f6, f7, f8, f9, f10⟩ := type_facts ht
    have d2 := Int.tdiv_eq_ediv_of_nonneg (b := 2) f9
    have d9 := Int.tdiv_eq_ediv_of_nonneg (b := 9) f9
    refine ⟨_, [], args_self _, ?_⟩
    repeat' first | refine And.intro ?_ ?_ | refine Ob.mk ?_ | intro h
    all_goals try refine leafE ?_
    all_goals simp only [decide_eq_true_eq, decide_eq_false_iff_not] at *
    all_goals first | omega | (simp only [d2, d9, size] at *; (repeat' split) <;> omega)
  · exact (Tr.run_fail hr).elim
theorem ok57 : Ok m 57 Csize := fn_ok2 (cons_cons ok89 cons_nil) Tryz.func57 (by kernel_rfl) fun xs r hr hp => by
  unfold Csize at hr
  split at hr
  · rename_i v
    obtain ⟨⟨hv, ht⟩, hr⟩ := Tr.run_need hr
    obtain rfl := Tr.run_ret hr
    generalize tyOf v = t at *
    subst hv
    clear hr hp
    obtain ⟨f1, f2, f3, f4, f5, f6, f7, f8, f9, f10⟩ := type_facts ht
    have d2 := Int.tdiv_eq_ediv_of_nonneg (b := 2) f9
    have dc : ∀ b : Bool, (bif b then (1 : Int) else 0) = if b = true then 1 else 0 := fun b => by cases b <;> rfl
    refine ⟨_, [], args_self _, ?_⟩
    repeat' first | refine And.intro ?_ ?_ | refine Ob.mk ?_ | intro h
    all_goals try refine leafE ?_
    all_goals simp only [decide_eq_true_eq, decide_eq_false_iff_not, dc] at *
    all_goals first | omega | (simp only [d2, size] at *; (repeat' split) <;> omega)
  · exact (Tr.run_fail hr).elim
noncomputable def Cpower : Con
  | [.int .i64 n] => .need (0 ≤ n ∧ n ≤ 18) (.ret (.int .i64 (10 ^ n.toNat)))
  | _ => .fail
theorem pow_le18 {i : Nat} (h : i ≤ 18) : (10 : Int) ^ i ≤ 1000000000000000000 := by
  have : (10 : Nat) ^ i ≤ 10 ^ 18 := Nat.pow_le_pow_right (by omega) h
  have e : ((10 ^ i : Nat) : Int) = (10 : Int) ^ i := by simp
  omega
theorem pow_pos' (i : Nat) : 0 < (10 : Int) ^ i := by
  have : 0 < (10 : Nat) ^ i := Nat.pow_pos (by omega)
  have e : ((10 ^ i : Nat) : Int) = (10 : Int) ^ i := by simp
  omega
noncomputable def invPower (n : Int) : Eng.Inv :=
  ⟨{ i : Nat // (i : Int) ≤ n }, fun i => [(3, I (10 ^ i.1)), (5, I n), (6, I i.1)], fun _ => [], fun i => n.toNat - i.1⟩
theorem ok126 : Ok m 126 Cpower := fn_ok2 cons_nil Tryz.func126 (by kernel_rfl) fun xs r hr hp => by
  unfold Cpower at hr
  split at hr
  · rename_i n
    obtain ⟨⟨h0, h18⟩, hr⟩ := Tr.run_need hr
    obtain rfl := Tr.run_ret hr
    refine ⟨_, [(0, invPower n)], args_self _, ?_⟩
    have hmin : min n 18 = n := by omega
    refine And.intro ⟨⟨0, h0⟩, rfl, ?_, rfl, trivial⟩ ?_
    · show min n 18 = n
      exact hmin
    rintro ⟨i, hi⟩
    constructor
    · intro h
      have h : (i : Int) < n := by simpa using h
      have h1 := pow_le18 (i := i) (by omega)
      have h1' := pow_le18 (i := i + 1) (by omega)
      have h2 := pow_pos' i
      have h3 : (10 : Int) ^ i * 10 = 10 ^ (i + 1) := (Int.pow_succ 10 i).symm
      refine And.intro ⟨show inI64 ((10 : Int) ^ i * 10) from by constructor <;> omega⟩ ?_
      refine And.intro ⟨show inI64 ((i : Int) + 1) from by constructor <;> omega⟩ ?_
      exact ⟨⟨i + 1, by omega⟩, show n.toNat - (i + 1) < n.toNat - i by omega, h3, rfl, rfl, trivial⟩
    · intro h
      have h : ¬ (i : Int) < n := by simpa using h
      have : i = n.toNat := by omega
      subst this
      exact leafE rfl
  · exact (Tr.run_fail hr).elim
noncomputable def invPower2 (n : Int) : Eng.Inv :=
  ⟨{ i : Nat // (i : Int) ≤ n }, fun i => [(0, I n), (3, I (10 ^ i.1)), (4, I i.1)], fun _ => [], fun i => n.toNat - i.1⟩
theorem ok122 : Ok m 122 Cpower := fn_ok2 cons_nil Tryz.func122 (by kernel_rfl) fun xs r hr hp => by
  unfold Cpower at hr
  split at hr
  · rename_i n
    obtain ⟨⟨h0, h18⟩, hr⟩ := Tr.run_need hr
    obtain rfl := Tr.run_ret hr
    refine ⟨_, [(0, invPower2 n)], args_self _, ?_⟩
    refine And.intro ⟨⟨0, h0⟩, rfl, rfl, rfl, trivial⟩ ?_
    rintro ⟨i, hi⟩
    constructor
    · intro h
      have h : (i : Int) < n := by simpa using h
      have h1 := pow_le18 (i := i) (by omega)
      have h1' := pow_le18 (i := i + 1) (by omega)
      have h2 := pow_pos' i
      have h3 : (10 : Int) ^ i * 10 = 10 ^ (i + 1) := (Int.pow_succ 10 i).symm
      refine And.intro ⟨show inI64 ((10 : Int) ^ i * 10) from by constructor <;> omega⟩ ?_
      refine And.intro ⟨show inI64 ((i : Int) + 1) from by constructor <;> omega⟩ ?_
      exact ⟨⟨i + 1, by omega⟩, show n.toNat - (i + 1) < n.toNat - i by omega, rfl, h3, rfl, trivial⟩
    · intro h
      have h : ¬ (i : Int) < n := by simpa using h
      have : i = n.toNat := by omega
      subst this
      exact leafE rfl
  · exact (Tr.run_fail hr).elim
noncomputable def Cmost : Con
  | [v] => .need (v = aTy (tyOf v) ∧ 0 ≤ (tyOf v).l ∧ (tyOf v).l ≤ 18) (.ret (.int .i64 (most (tyOf v).l)))
  | _ => .fail
theorem ok90 : Ok m 90 Cmost := fn_ok2 (cons_cons ok122 cons_nil) Tryz.func90 (by kernel_rfl) fun xs r hr hp => by
  unfold Cmost at hr
  split at hr
  · rename_i v
    obtain ⟨⟨hv, h0, h18⟩, hr⟩ := Tr.run_need hr
    obtain rfl := Tr.run_ret hr
    generalize tyOf v = t at *
    subst hv
    have h1 := pow_le18 (i := t.l.toNat) (by omega)
    have h2 := pow_pos' t.l.toNat
    refine ⟨_, [], args_self _, ?_⟩
    refine And.intro ⟨h0, h18⟩ (And.intro ⟨show inI64 ((10 : Int) ^ t.l.toNat - 1) from by constructor <;> omega⟩ (leafE rfl))
  · exact (Tr.run_fail hr).elim
noncomputable def Camount : Con
  | [.int .i64 n] => .need (-9223372036854775807 ≤ n ∧ n ≤ 9223372036854775807) (.ret (.int .i64 (max n (-n))))
  | _ => .fail
theorem ok108 : Ok m 108 Camount := fn_ok2 cons_nil Tryz.func108 (by kernel_rfl) fun xs r hr hp => by
  unfold Camount at hr
  split at hr
  · rename_i n
    obtain ⟨⟨h0, h1⟩, hr⟩ := Tr.run_need hr
    obtain rfl := Tr.run_ret hr
    refine ⟨_, [], args_self _, ?_⟩
    refine And.intro ⟨show inI64 (0 - n) from by constructor <;> omega⟩ (leafE ?_)
    show max n (0 - n) = max n (-n)
    rw [Int.zero_sub]
  · exact (Tr.run_fail hr).elim
end Go.Proofs.YtgcnbicoajjlaaaGreatDoor
end
section
set_option linter.unusedVariables false
set_option linter.unusedSimpArgs false
set_option maxRecDepth 100000
namespace Go.Proofs.YtgcnbicoajjlaaaGreatDoor
open Go Go.Eng Go.Tx
variable {m : Int}
noncomputable def CtypeErr : Con
  | [v] => .need (v = aTy (tyOf v)) (.ret (.int .i64 (typeErr (tyOf v))))
  | _ => .fail
theorem firstTwo (a b : Int) : firstNZ [a, b] = if a = 0 then b else a := by
  by_cases h : a = 0 <;> by_cases k : b = 0 <;> simp [firstNZ, h, k]
theorem bifI (b : Bool) (x : Int) : (bif b then x else 0) = if b = true then x else 0 := by cases b <;> rfl
theorem first2 (a b : Int) : firstNZ (ints (AV.sl true 1 2 fun i => List.take 1 (List.drop (i * 1) [AV.int IntKind.i64 a, AV.int IntKind.i64 b]))) = if a = 0 then b else a := firstTwo a b
theorem firstFour (a b c d : Int) : firstNZ [a, b, c, d] = if a = 0 then (if b = 0 then (if c = 0 then d else c) else b) else a := by
  by_cases h : a = 0 <;> by_cases k : b = 0 <;> by_cases k2 : c = 0 <;> by_cases k3 : d = 0 <;> simp [firstNZ, h, k, k2, k3]
theorem first4 (a b c d : Int) : firstNZ (ints (AV.sl true 1 4 fun i => List.take 1 (List.drop (i * 1) [AV.int IntKind.i64 a, AV.int IntKind.i64 b, AV.int IntKind.i64 c, AV.int IntKind.i64 d]))) = if a = 0 then (if b = 0 then (if c = 0 then d else c) else b) else a := firstFour a b c d
theorem checkTwo (a b : Bool) (x y : Int) (hx : x ≠ 0) : (if (bif !a then x else 0) = 0 then (bif !b then y else 0) else (bif !a then x else 0)) = (if a = false then x else if b = true then 0 else y) := by
  cases a <;> cases b <;> simp [hx]
theorem typeErr_of {t : Ty} {a b : Bool} (h : 0 ≤ t.k ∧ t.k ≤ 4) (ha : a = true ↔ lenOk t = true) (hb : b = true ↔ (0 ≤ t.s ∧ t.s ≤ (if 1 ≤ t.k ∧ t.k ≤ 3 then t.l else 0))) : (if a = false then (18 : Int) else if b = true then 0 else 3) = typeErr t := by
  unfold typeErr
  rw [if_neg (c := ¬ (0 ≤ t.k ∧ t.k ≤ 4)) (fun e => e h)]
  cases hl : lenOk t with
  | false =>
    rw [hl] at ha
    cases a with
    | false => rfl
    | true => exact absurd (ha.1 rfl) (by simp)
  | true =>
    rw [hl] at ha
    obtain rfl := ha.2 rfl
    simp only [Bool.true_eq_false, if_false]
    by_cases h3 : 0 ≤ t.s ∧ t.s ≤ (if 1 ≤ t.k ∧ t.k ≤ 3 then t.l else 0)
    · rw [if_pos (hb.2 h3), if_pos h3]
    · rw [if_neg (fun e => h3 (hb.1 e)), if_neg h3]
theorem lenOk_iff {t : Ty} (h : 0 ≤ t.k ∧ t.k ≤ 4) : lenOk t = true ↔ ((t.k = 0 → 1 ≤ t.l ∧ t.l ≤ 256) ∧ ((t.k = 1 ∨ t.k = 2) → 1 ≤ t.l ∧ t.l ≤ 15) ∧ (t.k = 3 → t.l = 4 ∨ t.l = 9) ∧ (t.k = 4 → t.l = 0)) := by
  have hk : t.k = 0 ∨ t.k = 1 ∨ t.k = 2 ∨ t.k = 3 ∨ t.k = 4 := by omega
  rcases hk with hk | hk | hk | hk | hk <;> simp [lenOk, hk]
theorem typeErr_alt (t : Ty) : typeErr t = if ¬ (0 ≤ t.k ∧ t.k ≤ 4) then 4
    else if ¬ ((t.k = 0 → 1 ≤ t.l ∧ t.l ≤ 256) ∧ ((t.k = 1 ∨ t.k = 2) → 1 ≤ t.l ∧ t.l ≤ 15) ∧ (t.k = 3 → t.l = 4 ∨ t.l = 9) ∧ (t.k = 4 → t.l = 0)) then 18
    else if 0 ≤ t.s ∧ ((1 ≤ t.k ∧ t.k ≤ 3) → t.s ≤ t.l) ∧ (¬ (1 ≤ t.k ∧ t.k ≤ 3) → t.s ≤ 0) then 0 else 3 := by
  by_cases h1 : 0 ≤ t.k ∧ t.k ≤ 4
  · rw [if_neg (c := ¬ (0 ≤ t.k ∧ t.k ≤ 4)) (fun e => e h1), ← typeErr_of (a := lenOk t) (b := decide (0 ≤ t.s ∧ t.s ≤ (if 1 ≤ t.k ∧ t.k ≤ 3 then t.l else 0))) h1 Iff.rfl (by simp)]
    have hl := lenOk_iff h1
    cases hb : lenOk t with
    | false =>
      rw [hb] at hl
      rw [if_pos rfl, if_pos (fun e => by have := hl.2 e; cases this)]
    | true =>
      rw [hb] at hl
      have hl := hl.1 rfl
      simp only [Bool.true_eq_false, if_false, decide_eq_true_eq]
      rw [if_neg (c := ¬ _) (fun e => e hl)]
      by_cases h13 : 1 ≤ t.k ∧ t.k ≤ 3
      · simp only [if_pos h13]
        (repeat' split) <;> omega
      · simp only [if_neg h13]
        (repeat' split) <;> omega
  · unfold typeErr
    rw [if_pos h1, if_pos h1]
theorem ok94 : Ok m 94 CtypeErr := fn_ok2 (cons_cons ok123 (cons_cons ok125 (cons_cons ok124 cons_nil))) Tryz.func94 (by kernel_rfl) fun xs r hr hp => by
  unfold CtypeErr at hr
  split at hr
  · rename_i v
    obtain ⟨hv, hr⟩ := Tr.run_need hr
    obtain rfl := Tr.run_ret hr
    generalize tyOf v = t at *
    subst hv
    clear hr hp
    refine ⟨_, [], args_self _, ?_⟩
    repeat' first | refine And.intro ?_ ?_ | refine Ob.mk ?_ | intro h
    all_goals first | exact eq2 rfl rfl | refine leafE ?_
    all_goals simp only [decide_eq_true_eq, decide_eq_false_iff_not] at *
    all_goals first | (rw [first2, checkTwo _ _ _ _ (by omega)]; refine typeErr_of (by omega) ?_ ?_) | skip
    all_goals first | omega | (simp [lenOk, *]; done) | (simp [lenOk, *]; omega) | exact (if_pos (by omega)).symm
  · exact (Tr.run_fail hr).elim
noncomputable def CsizeOf : Con
  | [v] => .need (v = aTy (tyOf v) ∧ typeErr (tyOf v) = 0) (.ret (.tup [.int .i64 (size (tyOf v)), .int .i64 0]))
  | _ => .fail
theorem ok128 : Ok m 128 CsizeOf := fn_ok2 (cons_cons ok94 (cons_cons ok153 cons_nil)) Tryz.func128 (by kernel_rfl) fun xs r hr hp => by
  unfold CsizeOf at hr
  split at hr
  · rename_i v
    obtain ⟨⟨hv, ht⟩, hr⟩ := Tr.run_need hr
    obtain rfl := Tr.run_ret hr
    generalize tyOf v = t at *
    subst hv
    clear hr hp
    refine ⟨_, [], args_self _, of_nice (Ob (aTy t = aTy t) ∧ ((!decide (typeErr t = (0 : Int))) = true → (0 : Int) = size t ∧ typeErr t = (0 : Int)) ∧ ((!decide (typeErr t = (0 : Int))) = false → Ob (aTy t = aTy t ∧
  typeErr t = (0 : Int)) ∧ size t = size t ∧ (0 : Int) = (0 : Int))) (by kernel_rfl) ?_⟩
    simp [ht, Ob_iff]
  · exact (Tr.run_fail hr).elim
noncomputable def CopdSize : Con
  | [v] => .need (v = aOpd (opdOf v) ∧ typeErr (opdOf v).ty = 0) (.ret (.int .i64 (size (opdOf v).ty)))
  | _ => .fail
theorem ok98 : Ok m 98 CopdSize := fn_ok2 (cons_cons ok128 cons_nil) Tryz.func98 (by kernel_rfl) fun xs r hr hp => by
  unfold CopdSize at hr
  split at hr
  · rename_i v
    obtain ⟨⟨hv, ht⟩, hr⟩ := Tr.run_need hr
    obtain rfl := Tr.run_ret hr
    generalize opdOf v = o at *
    subst hv
    clear hr hp
    refine ⟨_, [], args_self _, of_nice (Ob (aTy o.ty = aTy o.ty ∧ typeErr o.ty = (0 : Int)) ∧ size o.ty = size o.ty) (by kernel_rfl) ?_⟩
    simp [ht, Ob_iff]
  · exact (Tr.run_fail hr).elim
theorem ok55 : Ok m 55 CtypeErr := fn_ok2 (cons_cons ok6 (cons_cons ok88 (cons_cons ok89 cons_nil))) Tryz.func55 (by kernel_rfl) fun xs r hr hp => by
  unfold CtypeErr at hr
  split at hr
  · rename_i v
    obtain ⟨hv, hr⟩ := Tr.run_need hr
    obtain rfl := Tr.run_ret hr
    generalize tyOf v = t at *
    subst hv
    clear hr hp
    refine ⟨_, [], args_self _, of_nice (((!(decide ((0 : Int) ≤ t.k) && decide (t.k ≤ (4 : Int)))) = true → (4 : Int) = typeErr t) ∧ ((!(decide ((0 : Int) ≤ t.k) && decide (t.k ≤ (4 : Int)))) = false → (decide (t.k =
  (0 : Int)) = true → ((!(decide ((1 : Int) ≤ t.l) && decide (t.l ≤ (256 : Int)))) = true → (18 : Int) = typeErr t) ∧ ((!(decide ((1 : Int) ≤ t.l) && decide (t.l ≤ (256 : Int))))
  = false → ((decide ((1 : Int) ≤ t.k) && decide (t.k ≤ (3 : Int))) = true → Ob (inI64 ((3 : Int) * bif !(decide ((0 : Int) ≤ t.s) && decide (t.s ≤ t.l)) then (1 : Int) else (0 :
  Int))) ∧ ((3 : Int) * bif !(decide ((0 : Int) ≤ t.s) && decide (t.s ≤ t.l)) then (1 : Int) else (0 : Int)) = typeErr t) ∧ ((decide ((1 : Int) ≤ t.k) && decide (t.k ≤ (3 :
  Int))) = false → Ob (inI64 ((3 : Int) * bif !(decide ((0 : Int) ≤ t.s) && decide (t.s ≤ (0 : Int))) then (1 : Int) else (0 : Int))) ∧ ((3 : Int) * bif !(decide ((0 : Int) ≤
  t.s) && decide (t.s ≤ (0 : Int))) then (1 : Int) else (0 : Int)) = typeErr t))) ∧ (decide (t.k = (0 : Int)) = false → (decide (t.k = (1 : Int)) = true → ((!(decide ((1 : Int) ≤
  t.l) && decide (t.l ≤ (15 : Int)))) = true → (18 : Int) = typeErr t) ∧ ((!(decide ((1 : Int) ≤ t.l) && decide (t.l ≤ (15 : Int)))) = false → ((decide ((1 : Int) ≤ t.k) &&
  decide (t.k ≤ (3 : Int))) = true → Ob (inI64 ((3 : Int) * bif !(decide ((0 : Int) ≤ t.s) && decide (t.s ≤ t.l)) then (1 : Int) else (0 : Int))) ∧ ((3 : Int) * bif !(decide ((0
  : Int) ≤ t.s) && decide (t.s ≤ t.l)) then (1 : Int) else (0 : Int)) = typeErr t) ∧ ((decide ((1 : Int) ≤ t.k) && decide (t.k ≤ (3 : Int))) = false → Ob (inI64 ((3 : Int) * bif
  !(decide ((0 : Int) ≤ t.s) && decide (t.s ≤ (0 : Int))) then (1 : Int) else (0 : Int))) ∧ ((3 : Int) * bif !(decide ((0 : Int) ≤ t.s) && decide (t.s ≤ (0 : Int))) then (1 :
  Int) else (0 : Int)) = typeErr t))) ∧ (decide (t.k = (1 : Int)) = false → (decide (t.k = (2 : Int)) = true → ((!(decide ((1 : Int) ≤ t.l) && decide (t.l ≤ (15 : Int)))) = true
  → (18 : Int) = typeErr t) ∧ ((!(decide ((1 : Int) ≤ t.l) && decide (t.l ≤ (15 : Int)))) = false → ((decide ((1 : Int) ≤ t.k) && decide (t.k ≤ (3 : Int))) = true → Ob (inI64 ((3
  : Int) * bif !(decide ((0 : Int) ≤ t.s) && decide (t.s ≤ t.l)) then (1 : Int) else (0 : Int))) ∧ ((3 : Int) * bif !(decide ((0 : Int) ≤ t.s) && decide (t.s ≤ t.l)) then (1 :
  Int) else (0 : Int)) = typeErr t) ∧ ((decide ((1 : Int) ≤ t.k) && decide (t.k ≤ (3 : Int))) = false → Ob (inI64 ((3 : Int) * bif !(decide ((0 : Int) ≤ t.s) && decide (t.s ≤ (0
  : Int))) then (1 : Int) else (0 : Int))) ∧ ((3 : Int) * bif !(decide ((0 : Int) ≤ t.s) && decide (t.s ≤ (0 : Int))) then (1 : Int) else (0 : Int)) = typeErr t))) ∧ (decide (t.k
  = (2 : Int)) = false → (decide (t.k = (3 : Int)) = true → ((!(decide (t.l = (4 : Int)) || decide (t.l = (9 : Int)))) = true → (18 : Int) = typeErr t) ∧ ((!(decide (t.l = (4 :
  Int)) || decide (t.l = (9 : Int)))) = false → ((decide ((1 : Int) ≤ t.k) && decide (t.k ≤ (3 : Int))) = true → Ob (inI64 ((3 : Int) * bif !(decide ((0 : Int) ≤ t.s) && decide
  (t.s ≤ t.l)) then (1 : Int) else (0 : Int))) ∧ ((3 : Int) * bif !(decide ((0 : Int) ≤ t.s) && decide (t.s ≤ t.l)) then (1 : Int) else (0 : Int)) = typeErr t) ∧ ((decide ((1 :
  Int) ≤ t.k) && decide (t.k ≤ (3 : Int))) = false → Ob (inI64 ((3 : Int) * bif !(decide ((0 : Int) ≤ t.s) && decide (t.s ≤ (0 : Int))) then (1 : Int) else (0 : Int))) ∧ ((3 :
  Int) * bif !(decide ((0 : Int) ≤ t.s) && decide (t.s ≤ (0 : Int))) then (1 : Int) else (0 : Int)) = typeErr t))) ∧ (decide (t.k = (3 : Int)) = false → ((!decide (t.l = (0 :
  Int))) = true → (18 : Int) = typeErr t) ∧ ((!decide (t.l = (0 : Int))) = false → ((decide ((1 : Int) ≤ t.k) && decide (t.k ≤ (3 : Int))) = true → Ob (inI64 ((3 : Int) * bif
  !(decide ((0 : Int) ≤ t.s) && decide (t.s ≤ t.l)) then (1 : Int) else (0 : Int))) ∧ ((3 : Int) * bif !(decide ((0 : Int) ≤ t.s) && decide (t.s ≤ t.l)) then (1 : Int) else (0 :
  Int)) = typeErr t) ∧ ((decide ((1 : Int) ≤ t.k) && decide (t.k ≤ (3 : Int))) = false → Ob (inI64 ((3 : Int) * bif !(decide ((0 : Int) ≤ t.s) && decide (t.s ≤ (0 : Int))) then
  (1 : Int) else (0 : Int))) ∧ ((3 : Int) * bif !(decide ((0 : Int) ≤ t.s) && decide (t.s ≤ (0 : Int))) then (1 : Int) else (0 : Int)) = typeErr t)))))))) (by kernel_rfl) ?_⟩
    simp only [Ob_iff, inI64, decide_eq_true_eq, decide_eq_false_iff_not, Bool.and_eq_true, Bool.not_eq_true', Bool.not_eq_false', Bool.and_eq_false_iff, cond_eq_ite, Bool.or_eq_true, Bool.or_eq_false_iff]
    repeat' first | refine And.intro ?_ ?_ | intro h
    all_goals (simp only [typeErr_alt] at *)
    all_goals ((repeat' split) <;> first | omega | skip)
  · exact (Tr.run_fail hr).elim
end Go.Proofs.YtgcnbicoajjlaaaGreatDoor
end
section
set_option linter.unusedVariables false
set_option linter.unusedSimpArgs false
set_option maxRecDepth 100000
namespace Go.Proofs.YtgcnbicoajjlaaaGreatDoor
open Go Go.Eng Go.Tx
variable {m : Int}
noncomputable def CvalueErr : Con
  | [vt, vv] => .need (vt = aTy (tyOf vt) ∧ vv = aVal (vN vv) (vS vv)) (.ret (.int .i64 (valueErr (tyOf vt) (vN vv) (vS vv))))
  | _ => .fail
theorem ex2 (a b : Int) : (∃ l, eqv (slInts l) (AV.sl true 1 2 fun i => List.take 1 (List.drop (i * 1) [AV.int IntKind.i64 a, AV.int IntKind.i64 b]))) ↔ True := ⟨fun _ => trivial, fun _ => eq2 rfl rfl⟩
theorem ex4 (a b c d : Int) : (∃ l, eqv (slInts l) (AV.sl true 1 4 fun i => List.take 1 (List.drop (i * 1) [AV.int IntKind.i64 a, AV.int IntKind.i64 b, AV.int IntKind.i64 c, AV.int IntKind.i64 d]))) ↔ True := ⟨fun _ => trivial, fun _ => eq4 rfl rfl rfl rfl⟩
theorem valueErr_alt (t : Ty) (n : Int) (v : Str) {M : Int} (hM : M = most t.l) : valueErr t n v = if typeErr t ≠ 0 then typeErr t else if t.k = 4 then 17 else if t.k = 0 then (if n ≠ 0 then 5 else if (v.length : Int) = t.l then 0 else 18)
    else if v ≠ [] then 5 else if -M ≤ n ∧ n ≤ M then 0 else 19 := by
  subst hM
  unfold valueErr
  by_cases h1 : typeErr t ≠ 0
  · rw [if_pos h1, if_pos h1]
  · rw [if_neg h1, if_neg h1]
    by_cases h2 : t.k = 4
    · rw [if_pos h2, if_pos h2]
    · rw [if_neg h2, if_neg h2]
      by_cases h3 : t.k = 0
      · by_cases h4 : n = 0 <;> simp [h3, h4]
      · by_cases h4 : v = [] <;> simp [h3, h4]
theorem ok95 : Ok m 95 CvalueErr := fn_ok2 (cons_cons ok94 (cons_cons ok125 (cons_cons ok124 (cons_cons ok126 (cons_cons ok123 cons_nil))))) Tryz.func95 (by kernel_rfl) fun xs r hr hp => by
  unfold CvalueErr at hr
  split at hr
  · rename_i vt vv
    obtain ⟨⟨hv, hv2⟩, hr⟩ := Tr.run_need hr
    obtain rfl := Tr.run_ret hr
    generalize tyOf vt = t at *
    generalize vN vv = n at *
    generalize vS vv = s at *
    subst hv
    subst hv2
    clear hr hp
    refine ⟨_, [], args_self _, of_nice (Ob (aTy t = aTy t) ∧ Ob (∃ (l : List Int), eqv (slInts l) (AV.sl true (1 : Nat) (2 : Nat) fun (i : Nat) => List.take (1 : Nat) (List.drop (i * (1 : Nat)) [AV.int IntKind.i64
  (typeErr t), AV.int IntKind.i64 (bif decide (t.k = (4 : Int)) then (17 : Int) else (0 : Int))]))) ∧ ((!decide (firstNZ [typeErr t, bif decide (t.k = (4 : Int)) then (17 : Int)
  else (0 : Int)] = (0 : Int))) = true → firstNZ [typeErr t, bif decide (t.k = (4 : Int)) then (17 : Int) else (0 : Int)] = valueErr t n s) ∧ ((!decide (firstNZ [typeErr t, bif
  decide (t.k = (4 : Int)) then (17 : Int) else (0 : Int)] = (0 : Int))) = false → (decide (t.k = (0 : Int)) = true → Ob (∃ (l : List Int), eqv (slInts l) (AV.sl true (1 : Nat)
  (2 : Nat) fun (i : Nat) => List.take (1 : Nat) (List.drop (i * (1 : Nat)) [AV.int IntKind.i64 (bif !decide (n = (0 : Int)) then (5 : Int) else (0 : Int)), AV.int IntKind.i64
  (bif !decide ((↑(List.length s) : Int) = t.l) then (18 : Int) else (0 : Int))]))) ∧ firstNZ [bif !decide (n = (0 : Int)) then (5 : Int) else (0 : Int), bif !decide
  ((↑(List.length s) : Int) = t.l) then (18 : Int) else (0 : Int)] = valueErr t n s) ∧ (decide (t.k = (0 : Int)) = false → Ob ((0 : Int) ≤ t.l ∧ t.l ≤ (18 : Int)) ∧ Ob (inI64
  ((10 : Int) ^ t.l.toNat - (1 : Int))) ∧ Ob (inI64 ((0 : Int) - ((10 : Int) ^ t.l.toNat - (1 : Int)))) ∧ Ob (∃ (l : List Int), eqv (slInts l) (AV.sl true (1 : Nat) (2 : Nat) fun
  (i : Nat) => List.take (1 : Nat) (List.drop (i * (1 : Nat)) [AV.int IntKind.i64 (bif !decide (s = []) then (5 : Int) else (0 : Int)), AV.int IntKind.i64 (bif !(decide ((0 :
  Int) - ((10 : Int) ^ t.l.toNat - (1 : Int)) ≤ n) && decide (n ≤ (10 : Int) ^ t.l.toNat - (1 : Int))) then (19 : Int) else (0 : Int))]))) ∧ firstNZ [bif !decide (s = []) then (5
  : Int) else (0 : Int), bif !(decide ((0 : Int) - ((10 : Int) ^ t.l.toNat - (1 : Int)) ≤ n) && decide (n ≤ (10 : Int) ^ t.l.toNat - (1 : Int))) then (19 : Int) else (0 : Int)] =
  valueErr t n s))) (by kernel_rfl) ?_⟩
    have hE : typeErr t = 0 → _ := type_facts
    have hp : t.l.toNat ≤ 18 → _ := pow_le18
    have hq := pow_pos' t.l.toNat
    rw [valueErr_alt t n s (M := (10 : Int) ^ t.l.toNat - 1) rfl]
    generalize typeErr t = e at *
    generalize (10 : Int) ^ t.l.toNat = P at *
    simp only [Ob_iff, ex2, firstTwo, inI64, decide_eq_true_eq, decide_eq_false_iff_not, Bool.and_eq_true, Bool.not_eq_true', Bool.not_eq_false', Bool.and_eq_false_iff, Bool.or_eq_true, Bool.or_eq_false_iff, bor_c, band_c, cond_eq_ite, ← List.length_eq_zero_iff, ne_eq, true_and, implies_true, and_true]
    repeat' first | refine And.intro ?_ ?_ | intro h
    all_goals ((repeat' split at *) <;> first | omega | (simp only [Bool.not_eq_true', Bool.not_eq_false', decide_eq_true_eq, decide_eq_false_iff_not, Bool.false_eq_true, Bool.true_eq_false, or_false, false_or, and_true, true_and] at *; omega))
  · exact (Tr.run_fail hr).elim
theorem ok56 : Ok m 56 CvalueErr := fn_ok2 (cons_cons ok55 (cons_cons ok89 (cons_cons ok90 (cons_cons ok6 cons_nil)))) Tryz.func56 (by kernel_rfl) fun xs r hr hp => by
  unfold CvalueErr at hr
  split at hr
  · rename_i vt vv
    obtain ⟨⟨hv, hv2⟩, hr⟩ := Tr.run_need hr
    obtain rfl := Tr.run_ret hr
    generalize tyOf vt = t at *
    generalize vN vv = n at *
    generalize vS vv = s at *
    subst hv
    subst hv2
    clear hr hp
    refine ⟨_, [], args_self _, of_nice (Ob (aTy t = aTy t) ∧ ((!decide (typeErr t = (0 : Int))) = true → typeErr t = valueErr t n s) ∧ ((!decide (typeErr t = (0 : Int))) = false → (decide (t.k = (4 : Int)) = true →
  (17 : Int) = valueErr t n s) ∧ (decide (t.k = (4 : Int)) = false → (((bif decide (t.k = (0 : Int)) then !decide (n = (0 : Int)) else false) || bif !decide (t.k = (0 : Int))
  then !decide (s = []) else false) = true → (5 : Int) = valueErr t n s) ∧ (((bif decide (t.k = (0 : Int)) then !decide (n = (0 : Int)) else false) || bif !decide (t.k = (0 :
  Int)) then !decide (s = []) else false) = false → (decide (t.k = (0 : Int)) = true → Ob (inI64 ((18 : Int) * bif !decide ((↑(List.length s) : Int) = t.l) then (1 : Int) else (0
  : Int))) ∧ ((18 : Int) * bif !decide ((↑(List.length s) : Int) = t.l) then (1 : Int) else (0 : Int)) = valueErr t n s) ∧ (decide (t.k = (0 : Int)) = false → Ob (aTy t = aTy t ∧
  (0 : Int) ≤ t.l ∧ t.l ≤ (18 : Int)) ∧ Ob (inI64 ((0 : Int) - most t.l)) ∧ Ob (aTy t = aTy t ∧ (0 : Int) ≤ t.l ∧ t.l ≤ (18 : Int)) ∧ Ob (inI64 ((19 : Int) * bif !(decide ((0 :
  Int) - most t.l ≤ n) && decide (n ≤ most t.l)) then (1 : Int) else (0 : Int))) ∧ ((19 : Int) * bif !(decide ((0 : Int) - most t.l ≤ n) && decide (n ≤ most t.l)) then (1 : Int)
  else (0 : Int)) = valueErr t n s))))) (by kernel_rfl) ?_⟩
    have hE : typeErr t = 0 → _ := type_facts
    have hp : t.l.toNat ≤ 18 → _ := pow_le18
    have hq := pow_pos' t.l.toNat
    rw [valueErr_alt t n s (M := (10 : Int) ^ t.l.toNat - 1) rfl]
    rw [show most t.l = (10 : Int) ^ t.l.toNat - 1 from rfl]
    generalize typeErr t = e at *
    generalize (10 : Int) ^ t.l.toNat = P at *
    simp only [Ob_iff, ex2, firstTwo, inI64, decide_eq_true_eq, decide_eq_false_iff_not, Bool.and_eq_true, Bool.not_eq_true', Bool.not_eq_false', Bool.and_eq_false_iff, Bool.or_eq_true, Bool.or_eq_false_iff, bor_c, band_c, cond_eq_ite, ← List.length_eq_zero_iff, ne_eq, true_and, implies_true, and_true]
    repeat' first | refine And.intro ?_ ?_ | intro h
    all_goals ((repeat' split at *) <;> first | omega | (simp only [Bool.not_eq_true', Bool.not_eq_false', decide_eq_true_eq, decide_eq_false_iff_not, Bool.false_eq_true, Bool.true_eq_false, or_false, false_or, and_true, true_and] at *; omega))
  · exact (Tr.run_fail hr).elim
end Go.Proofs.YtgcnbicoajjlaaaGreatDoor
end
section
set_option linter.unusedVariables false
set_option linter.unusedSimpArgs false
set_option maxRecDepth 100000
namespace Go.Proofs.YtgcnbicoajjlaaaGreatDoor
open Go Go.Eng Go.Tx
variable {m : Int}
noncomputable def findI {α : Type} (p : α → Bool) : List α → Int
  | [] => -1
  | a :: r => bif p a then 0 else if findI p r < 0 then -1 else findI p r + 1
theorem findI_ge {α : Type} (p : α → Bool) : ∀ l : List α, -1 ≤ findI p l ∧ findI p l < l.length
  | [] => by simp [findI]
  | a :: r => by
    have := findI_ge p r
    simp only [findI, List.length_cons]
    cases p a <;> simp <;> split <;> omega
theorem findI_hit {α : Type} {p : α → Bool} {d : α} : ∀ {l : List α} {i : Nat}, i < l.length → (∀ k, k < i → p (l.getD k d) = false) → p (l.getD i d) = true → findI p l = i
  | [], i, hi, _, _ => by simp at hi
  | a :: r, 0, _, _, h => by
    have h : p a = true := h
    simp [findI, h]
  | a :: r, i + 1, hi, hn, h => by
    have h0 : p a = false := hn 0 (by omega)
    have ih := findI_hit (l := r) (i := i) (by simpa using hi) (fun k hk => hn (k + 1) (by omega)) h
    simp only [findI, h0, cond_false, ih]
    rw [if_neg (by omega)]
    omega
theorem findI_none {α : Type} {p : α → Bool} {d : α} : ∀ {l : List α}, (∀ k, k < l.length → p (l.getD k d) = false) → findI p l = -1
  | [], _ => rfl
  | a :: r, hn => by
    have h0 : p a = false := hn 0 (by simp)
    have ih := findI_none (l := r) (fun k hk => hn (k + 1) (by simpa using hk))
    simp [findI, h0, ih]
theorem findI_named (s : Str) : ∀ l : List Opd, findI (fun o => decide (o.name = s)) l = named l s
  | [] => rfl
  | o :: r => by
    simp only [findI, named, findI_named s r]
    by_cases h : o.name = s <;> simp [h]
theorem findI_idx (s : Str) : ∀ l : List Str, findI (fun o => decide (o = s)) l = idxOf l s
  | [] => rfl
  | o :: r => by
    simp only [findI, idxOf, findI_idx s r]
    by_cases h : o = s <;> simp [h]
theorem findI_any {α : Type} (p : α → Bool) : ∀ l : List α, decide (0 ≤ findI p l) = l.any p
  | [] => rfl
  | a :: r => by
    have ih := findI_any p r
    have hg := (findI_ge p r).1
    have e : findI p (a :: r) = bif p a then 0 else if findI p r < 0 then -1 else findI p r + 1 := rfl
    rw [List.any_cons, ← ih, Bool.eq_iff_iff, Bool.or_eq_true, decide_eq_true_eq, decide_eq_true_eq, e]
    cases p a
    · simp only [cond_false, Bool.false_eq_true, false_or]
      split <;> omega
    · simp
noncomputable def invIdx (v clo : AV) (n : Nat) (P : Nat → Prop) : Eng.Inv :=
  ⟨{ i : Nat // i ≤ n ∧ ∀ k, k < i → P k }, fun i => [(0, v), (1, clo), (7, I n), (8, I i.1)], fun _ => [], fun i => n - i.1⟩
theorem below_succ {P : Nat → Prop} {i : Nat} (h : ∀ k, k < i → P k) (hi : P i) : ∀ k, k < i + 1 → P k := fun k hk => by
  rcases Nat.lt_or_ge k i with h1 | h1
  · exact h k h1
  · have : k = i := by omega
    subst this; exact hi
theorem below_zero {P : Nat → Prop} : ∀ k, k < 0 → P k := fun k hk => absurd hk (Nat.not_lt_zero k)
theorem sub_step {i n : Nat} (h : i < n) : n - (i + 1) < n - i := by omega
theorem succ_in {i n : Nat} (h : i < n) (hn : n ≤ maxLen) : inI64 ((i : Int) + 1) := by
  unfold maxLen at hn
  constructor <;> omega
theorem lt_of_dec {i n : Nat} (h : decide ((i : Int) < (n : Int)) = true) : i < n := by simpa using h
theorem ge_of_dec {i n : Nat} (h : decide ((i : Int) < (n : Int)) = false) (hi : i ≤ n) : i = n := by
  have : ¬ (i : Int) < n := by simpa using h
  omega
noncomputable def CisName : Con
  | [.str s] => .ret (.prop (isName s))
  | _ => .fail
noncomputable def CnotName : Con
  | [.str s] => .ret (.prop (!isName s))
  | _ => .fail
theorem ok49 (h44 : Ok m 44 CisName) : Ok m 49 CnotName := fn_ok2 (cons_cons h44 cons_nil) Tryz.func49 (by kernel_rfl) fun xs r hr hp => by
  unfold CnotName at hr
  split at hr
  · rename_i s
    obtain rfl := Tr.run_ret hr
    exact ⟨_, [], args_self _, of_nice ((!isName s) = !isName s) (by kernel_rfl) rfl⟩
  · exact (Tr.run_fail hr).elim
noncomputable def Cnamed1 : Con
  | [v, .rd [.str s]] => .need (v = aOpd (opdOf v)) (.ret (.prop (decide ((opdOf v).name = s))))
  | _ => .fail
theorem ok85 : Ok m 85 Cnamed1 := fn_ok2 cons_nil Tryz.func85 (by kernel_rfl) fun xs r hr hp => by
  unfold Cnamed1 at hr
  split at hr
  · rename_i v s
    obtain ⟨hv, hr⟩ := Tr.run_need hr
    obtain rfl := Tr.run_ret hr
    generalize opdOf v = o at *
    subst hv
    exact ⟨_, [], args_self _, of_nice (decide (o.name = s) = decide (o.name = s)) (by kernel_rfl) rfl⟩
  · exact (Tr.run_fail hr).elim
noncomputable def Cshown1 : Con
  | [.int .u8 c] => .ret (.prop (decide (c < 32) || decide (126 < c)))
  | _ => .fail
theorem ok103 : Ok m 103 Cshown1 := fn_ok2 cons_nil Tryz.func103 (by kernel_rfl) fun xs r hr hp => by
  unfold Cshown1 at hr
  split at hr
  · rename_i c
    obtain rfl := Tr.run_ret hr
    exact ⟨_, [], args_self _, of_nice ((decide (c < (32 : Int)) || decide ((126 : Int) < c)) = (decide (c < (32 : Int)) || decide ((126 : Int) < c))) (by kernel_rfl) rfl⟩
  · exact (Tr.run_fail hr).elim
theorem findI_idx2 (s : Str) : ∀ l : List Str, findI (fun o => decide (s = o)) l = idxOf l s
  | [] => rfl
  | o :: r => by
    simp only [findI, idxOf, findI_idx2 s r]
    by_cases h : o = s
    · subst h; simp
    · have h2 : ¬ s = o := fun e => h e.symm
      simp [h, h2]
noncomputable def Cidx84 : Con
  | [v, .clo 85 [.rd [.str s]]] => .need (∃ l, eqv (slOpds l) v) (.ret (.int .i64 (named (opdsOf v) s)))
  | _ => .fail
theorem ok84 : Ok m 84 Cidx84 := fn_ok2 (cons_cons ok85 cons_nil) Tryz.func84 (by kernel_rfl) fun xs r hr hp => by
  unfold Cidx84 at hr
  split at hr
  · rename_i v s
    obtain ⟨⟨l, hl⟩, hr⟩ := Tr.run_need hr
    obtain rfl := Tr.run_ret hr
    have hb := len_small hl hp.1
    rw [opds_eqv hl]
    refine ⟨[slOpds l, .clo 85 [.rd [.str s]]], [(0, invIdx (slOpds l) (.clo 85 [.rd [.str s]]) l.length (fun k => decide ((l.getD k opd0).name = s) = false))], ⟨.inr ⟨rfl, rfl, hl⟩, .inl rfl, trivial⟩, of_nice ((∃ (j : { i : Nat // i ≤ l.length ∧ ∀ (k : Nat), k < i → decide ((l.getD k opd0).name = s) = false }), (l.length = l.length ∧ ∀ (i : Nat), i < l.length → cOpd (l.getD i opd0) =
  cOpd (l.getD i opd0)) ∧ [AV.str s] = [AV.str s] ∧ (↑l.length : Int) = (↑l.length : Int) ∧ (0 : Int) = (↑j.val : Int) ∧ True) ∧ ∀ (i : { i : Nat // i ≤ l.length ∧ ∀ (k : Nat), k
  < i → decide ((l.getD k opd0).name = s) = false }), (decide ((↑i.val : Int) < (↑l.length : Int)) = true → Ob ((0 : Int) ≤ (↑i.val : Int) ∧ (↑i.val : Int) < (↑l.length : Int)) ∧
  Ob (aOpd (l.getD i.val opd0) = aOpd (l.getD i.val opd0)) ∧ (decide ((l.getD i.val opd0).name = s) = true → (↑i.val : Int) = named l s) ∧ (decide ((l.getD i.val opd0).name = s)
  = false → Ob (inI64 ((↑i.val : Int) + (1 : Int))) ∧ ∃ (j : { i : Nat // i ≤ l.length ∧ ∀ (k : Nat), k < i → decide ((l.getD k opd0).name = s) = false }), (l.length -
  j.val).succ.le (l.length - i.val) ∧ (l.length = l.length ∧ ∀ (i : Nat), i < l.length → cOpd (l.getD i opd0) = cOpd (l.getD i opd0)) ∧ [AV.str s] = [AV.str s] ∧ (↑l.length :
  Int) = (↑l.length : Int) ∧ (↑i.val : Int) + (1 : Int) = (↑j.val : Int) ∧ True)) ∧ (decide ((↑i.val : Int) < (↑l.length : Int)) = false → (-1 : Int) = named l s)) (by kernel_rfl) ?_⟩
    refine And.intro ⟨⟨0, Nat.zero_le _, below_zero⟩, ⟨rfl, fun _ _ => rfl⟩, rfl, rfl, rfl, trivial⟩ ?_
    rintro ⟨i, hi, hk⟩
    refine And.intro (fun h => ?_) (fun h => ?_)
    · have h' := lt_of_dec h
      refine And.intro ⟨Int.natCast_nonneg i, Int.ofNat_lt.2 h'⟩ (And.intro ⟨rfl⟩ (And.intro (fun hp => ?_) (fun hp => And.intro ⟨succ_in h' hb⟩ ?_)))
      · exact (Eq.trans (findI_named s l).symm (findI_hit (p := fun o : Opd => decide (o.name = s)) (d := opd0) h' hk hp)).symm
      · exact ⟨⟨i + 1, h', below_succ hk hp⟩, sub_step h', ⟨rfl, fun _ _ => rfl⟩, rfl, rfl, rfl, trivial⟩
    · have := ge_of_dec h hi
      subst this
      exact (Eq.trans (findI_named s l).symm (findI_none (p := fun o : Opd => decide (o.name = s)) (d := opd0) hk)).symm
  · exact (Tr.run_fail hr).elim
theorem dec_notName (s : Str) : (!isName s) = (!isName s) := rfl
noncomputable def firstBad (l : List Str) : Int := findI (fun a => !isName a) l
noncomputable def Cidx83 : Con
  | [v, .clo 49 []] => .need (∃ l, eqv (slStrs l) v) (.ret (.int .i64 (firstBad (strs v))))
  | _ => .fail
theorem ok83 (h44 : Ok m 44 CisName) : Ok m 83 Cidx83 := fn_ok2 (cons_cons (ok49 h44) cons_nil) Tryz.func83 (by kernel_rfl) fun xs r hr hp => by
  unfold Cidx83 at hr
  split at hr
  · rename_i v
    obtain ⟨⟨l, hl⟩, hr⟩ := Tr.run_need hr
    obtain rfl := Tr.run_ret hr
    have hb := len_small hl hp.1
    rw [strs_eqv hl]
    refine ⟨[slStrs l, .clo 49 []], [(0, invIdx (slStrs l) (.clo 49 []) l.length (fun k => (!isName (l.getD k [])) = false))], ⟨.inr ⟨rfl, rfl, hl⟩, .inl rfl, trivial⟩, of_nice ((∃ (j : { i : Nat // i ≤ l.length ∧ ∀ (k : Nat), k < i → (!isName (l.getD k [])) = false }), (l.length = l.length ∧ ∀ (i : Nat), i < l.length → [AV.str (l.getD i [])] = [AV.str
  (l.getD i [])]) ∧ True ∧ (↑l.length : Int) = (↑l.length : Int) ∧ (0 : Int) = (↑j.val : Int) ∧ True) ∧ ∀ (i : { i : Nat // i ≤ l.length ∧ ∀ (k : Nat), k < i → (!isName (l.getD k
  [])) = false }), (decide ((↑i.val : Int) < (↑l.length : Int)) = true → Ob ((0 : Int) ≤ (↑i.val : Int) ∧ (↑i.val : Int) < (↑l.length : Int)) ∧ ((!isName (l.getD i.val [])) =
  true → (↑i.val : Int) = firstBad l) ∧ ((!isName (l.getD i.val [])) = false → Ob (inI64 ((↑i.val : Int) + (1 : Int))) ∧ ∃ (j : { i : Nat // i ≤ l.length ∧ ∀ (k : Nat), k < i →
  (!isName (l.getD k [])) = false }), (l.length - j.val).succ.le (l.length - i.val) ∧ (l.length = l.length ∧ ∀ (i : Nat), i < l.length → [AV.str (l.getD i [])] = [AV.str (l.getD
  i [])]) ∧ True ∧ (↑l.length : Int) = (↑l.length : Int) ∧ (↑i.val : Int) + (1 : Int) = (↑j.val : Int) ∧ True)) ∧ (decide ((↑i.val : Int) < (↑l.length : Int)) = false → (-1 :
  Int) = firstBad l)) (by kernel_rfl) ?_⟩
    refine And.intro ⟨⟨0, Nat.zero_le _, below_zero⟩, ⟨rfl, fun _ _ => rfl⟩, trivial, rfl, rfl, trivial⟩ ?_
    rintro ⟨i, hi, hk⟩
    refine And.intro (fun h => ?_) (fun h => ?_)
    · have h' := lt_of_dec h
      refine And.intro ⟨Int.natCast_nonneg i, Int.ofNat_lt.2 h'⟩ (And.intro (fun hp => ?_) (fun hp => And.intro ⟨succ_in h' hb⟩ ?_))
      · exact (Eq.trans (rfl : firstBad l = _) (findI_hit (p := fun a : Str => !isName a) (d := []) h' hk hp)).symm
      · exact ⟨⟨i + 1, h', below_succ hk hp⟩, sub_step h', ⟨rfl, fun _ _ => rfl⟩, trivial, rfl, rfl, trivial⟩
    · have := ge_of_dec h hi
      subst this
      exact (Eq.trans (rfl : firstBad l = _) (findI_none (p := fun a : Str => !isName a) (d := []) hk)).symm
  · exact (Tr.run_fail hr).elim
noncomputable def dByte : List AV → UInt8 | [.int _ n] => UInt8.ofNat n.toNat | _ => 0
noncomputable def bytesIn : AV → Str := decS dByte
theorem bytes_eqv {s : Str} {v : AV} (h : eqv (slBytes s) v) : bytesIn v = s := decS_eqv (enc := fun c : UInt8 => [.int .u8 (c.toNat : Int)]) (d := 0) (fun c => by
  show UInt8.ofNat ((c.toNat : Int)).toNat = c
  simp) h
theorem slBytes_refl (s : Str) : eqv (slBytes s) (slBytes s) := ⟨rfl, fun _ _ => rfl⟩
noncomputable def hidden (c : UInt8) : Bool := decide ((c.toNat : Int) < 32) || decide ((126 : Int) < (c.toNat : Int))
noncomputable def firstHidden (l : Str) : Int := findI hidden l
noncomputable def Cidx131 : Con
  | [v, .clo 103 []] => .need (∃ l, eqv (slBytes l) v) (.ret (.int .i64 (firstHidden (bytesIn v))))
  | _ => .fail
theorem ok131 : Ok m 131 Cidx131 := fn_ok2 (cons_cons ok103 cons_nil) Tryz.func131 (by kernel_rfl) fun xs r hr hp => by
  unfold Cidx131 at hr
  split at hr
  · rename_i v
    obtain ⟨⟨l, hl⟩, hr⟩ := Tr.run_need hr
    obtain rfl := Tr.run_ret hr
    have hb := len_small hl hp.1
    rw [bytes_eqv hl]
    refine ⟨[slBytes l, .clo 103 []], [(0, invIdx (slBytes l) (.clo 103 []) l.length (fun k => hidden (l.getD k 0) = false))], ⟨.inr ⟨rfl, rfl, hl⟩, .inl rfl, trivial⟩, of_nice ((∃ (j : { i : Nat // i ≤ l.length ∧ ∀ (k : Nat), k < i → hidden (l.getD k (0 : UInt8)) = false }), (l.length = l.length ∧ ∀ (i : Nat), i < l.length → strSl l i = strSl l i) ∧
  True ∧ (↑l.length : Int) = (↑l.length : Int) ∧ (0 : Int) = (↑j.val : Int) ∧ True) ∧ ∀ (i : { i : Nat // i ≤ l.length ∧ ∀ (k : Nat), k < i → hidden (l.getD k (0 : UInt8)) =
  false }), (decide ((↑i.val : Int) < (↑l.length : Int)) = true → Ob ((0 : Int) ≤ (↑i.val : Int) ∧ (↑i.val : Int) < (↑l.length : Int)) ∧ ((decide ((↑(l.getD i.val (0 :
  UInt8)).toNat : Int) < (32 : Int)) || decide ((126 : Int) < (↑(l.getD i.val (0 : UInt8)).toNat : Int))) = true → (↑i.val : Int) = firstHidden l) ∧ ((decide ((↑(l.getD i.val (0
  : UInt8)).toNat : Int) < (32 : Int)) || decide ((126 : Int) < (↑(l.getD i.val (0 : UInt8)).toNat : Int))) = false → Ob (inI64 ((↑i.val : Int) + (1 : Int))) ∧ ∃ (j : { i : Nat
  // i ≤ l.length ∧ ∀ (k : Nat), k < i → hidden (l.getD k (0 : UInt8)) = false }), (l.length - j.val).succ.le (l.length - i.val) ∧ (l.length = l.length ∧ ∀ (i : Nat), i <
  l.length → strSl l i = strSl l i) ∧ True ∧ (↑l.length : Int) = (↑l.length : Int) ∧ (↑i.val : Int) + (1 : Int) = (↑j.val : Int) ∧ True)) ∧ (decide ((↑i.val : Int) < (↑l.length :
  Int)) = false → (-1 : Int) = firstHidden l)) (by kernel_rfl) ?_⟩
    refine And.intro ⟨⟨0, Nat.zero_le _, below_zero⟩, ⟨rfl, fun _ _ => rfl⟩, trivial, rfl, rfl, trivial⟩ ?_
    rintro ⟨i, hi, hk⟩
    refine And.intro (fun h => ?_) (fun h => ?_)
    · have h' := lt_of_dec h
      refine And.intro ⟨Int.natCast_nonneg i, Int.ofNat_lt.2 h'⟩ (And.intro (fun hp => ?_) (fun hp => And.intro ⟨succ_in h' hb⟩ ?_))
      · exact (Eq.trans (rfl : firstHidden l = _) (findI_hit (p := hidden) (d := 0) h' hk hp)).symm
      · exact ⟨⟨i + 1, h', below_succ hk hp⟩, sub_step h', ⟨rfl, fun _ _ => rfl⟩, trivial, rfl, rfl, trivial⟩
    · have := ge_of_dec h hi
      subst this
      exact (Eq.trans (rfl : firstHidden l = _) (findI_none (p := hidden) (d := 0) hk)).symm
  · exact (Tr.run_fail hr).elim
noncomputable def Cidx47 : Con
  | [v, .str s] => .need (∃ l, eqv (slStrs l) v) (.ret (.int .i64 (idxOf (strs v) s)))
  | _ => .fail
theorem ok47 : Ok m 47 Cidx47 := fn_ok2 cons_nil Tryz.func47 (by kernel_rfl) fun xs r hr hp => by
  unfold Cidx47 at hr
  split at hr
  · rename_i v s
    obtain ⟨⟨l, hl⟩, hr⟩ := Tr.run_need hr
    obtain rfl := Tr.run_ret hr
    have hb := len_small hl hp.1
    rw [strs_eqv hl]
    refine ⟨[slStrs l, .str s], [(0, invIdx (slStrs l) (.str s) l.length (fun k => decide (s = l.getD k []) = false))], ⟨.inr ⟨rfl, rfl, hl⟩, .inl rfl, trivial⟩, of_nice ((∃ (j : { i : Nat // i ≤ l.length ∧ ∀ (k : Nat), k < i → decide (s = l.getD k []) = false }), (l.length = l.length ∧ ∀ (i : Nat), i < l.length → [AV.str (l.getD i [])] = [AV.str
  (l.getD i [])]) ∧ s = s ∧ (↑l.length : Int) = (↑l.length : Int) ∧ (0 : Int) = (↑j.val : Int) ∧ True) ∧ ∀ (i : { i : Nat // i ≤ l.length ∧ ∀ (k : Nat), k < i → decide (s =
  l.getD k []) = false }), (decide ((↑i.val : Int) < (↑l.length : Int)) = true → Ob ((0 : Int) ≤ (↑i.val : Int) ∧ (↑i.val : Int) < (↑l.length : Int)) ∧ (decide (s = l.getD i.val
  []) = true → (↑i.val : Int) = idxOf l s) ∧ (decide (s = l.getD i.val []) = false → Ob (inI64 ((↑i.val : Int) + (1 : Int))) ∧ ∃ (j : { i : Nat // i ≤ l.length ∧ ∀ (k : Nat), k <
  i → decide (s = l.getD k []) = false }), (l.length - j.val).succ.le (l.length - i.val) ∧ (l.length = l.length ∧ ∀ (i : Nat), i < l.length → [AV.str (l.getD i [])] = [AV.str
  (l.getD i [])]) ∧ s = s ∧ (↑l.length : Int) = (↑l.length : Int) ∧ (↑i.val : Int) + (1 : Int) = (↑j.val : Int) ∧ True)) ∧ (decide ((↑i.val : Int) < (↑l.length : Int)) = false →
  (-1 : Int) = idxOf l s)) (by kernel_rfl) ?_⟩
    refine And.intro ⟨⟨0, Nat.zero_le _, below_zero⟩, ⟨rfl, fun _ _ => rfl⟩, rfl, rfl, rfl, trivial⟩ ?_
    rintro ⟨i, hi, hk⟩
    refine And.intro (fun h => ?_) (fun h => ?_)
    · have h' := lt_of_dec h
      refine And.intro ⟨Int.natCast_nonneg i, Int.ofNat_lt.2 h'⟩ (And.intro (fun hp => ?_) (fun hp => And.intro ⟨succ_in h' hb⟩ ?_))
      · exact (Eq.trans (findI_idx2 s l).symm (findI_hit (p := fun o : Str => decide (s = o)) (d := []) h' hk hp)).symm
      · exact ⟨⟨i + 1, h', below_succ hk hp⟩, sub_step h', ⟨rfl, fun _ _ => rfl⟩, rfl, rfl, rfl, trivial⟩
    · have := ge_of_dec h hi
      subst this
      exact (Eq.trans (findI_idx2 s l).symm (findI_none (p := fun o : Str => decide (s = o)) (d := []) hk)).symm
  · exact (Tr.run_fail hr).elim
end Go.Proofs.YtgcnbicoajjlaaaGreatDoor
end
