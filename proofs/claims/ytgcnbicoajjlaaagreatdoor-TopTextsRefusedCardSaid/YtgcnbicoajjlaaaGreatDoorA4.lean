/-
What is proved: 'midrangetop.TopTextsRefused' returns true for every input, and its arguments read behind the call as they read before (the tied card of the statement 'TopTextsRefused').
  Its conditions: the row's own: the ten listed package-level variables start as the program's text lays them (the card ties them to that text); nothing else is asked.
  Part 4 of 15.
-/
import Derived.Test.YtgcnbicoajjlaaaGreatDoorA3
set_option linter.unusedSectionVars false
set_option linter.unusedVariables false
set_option linter.unusedSimpArgs false
section
set_option linter.unusedVariables false
set_option linter.unusedSimpArgs false
set_option linter.unusedSectionVars false
namespace Go.Eng
open Go
theorem optmap_congr {ρ ρ' : Operand → AV} {x : Option Operand} (h : ∀ y ∈ x.toArray, ρ y = ρ' y) : x.map ρ = x.map ρ' := by
  cases x with
  | none => rfl
  | some y => simp [h y (by simp)]
theorem bnd_congr {ρ ρ' : Operand → AV} {lo hi : Option Operand} (hl : lo.map ρ = lo.map ρ') (hh : hi.map ρ = hi.map ρ') (n : Nat) (k : Nat → Nat → Tr AV) : bnd ρ lo hi n k = bnd ρ' lo hi n k := by
  unfold bnd; rw [hl, hh]
theorem parts_congr {ρ ρ' : Operand → AV} {ps : List (Nat × Operand)} (h : ∀ x ∈ ps.map (·.2), ρ x = ρ' x) : (ps.map fun p => (p.1, ρ p.2)) = ps.map fun p => (p.1, ρ' p.2) :=
  List.map_congr_left fun p hp => by rw [h p.2 (List.mem_map.2 ⟨p, hp, rfl⟩)]
theorem parts_all {ρ ρ' : Operand → AV} {ps : List (Nat × Operand)} (h : ∀ x ∈ ps.map (·.2), ρ x = ρ' x) : (ps.all fun p => cellsOk (ρ p.2)) = ps.all fun p => cellsOk (ρ' p.2) := by
  have := congrArg (fun l : List (Nat × AV) => l.all fun p => cellsOk p.2) (parts_congr h)
  simpa [List.all_map, Function.comp_def] using this
theorem pureOp_congr {E : Env} {ρ ρ' : Operand → AV} {op : Op} (h : ∀ x ∈ op.operands, ρ x = ρ' x) : pureOp E ρ op = pureOp E ρ' op := by
  cases op <;> simp only [Op.operands] at h <;> first | rfl | skip
  case build t ps =>
    have h' : ∀ x ∈ ps.toList.map (·.2), ρ x = ρ' x := fun x hx => h x (by simpa using hx)
    simp only [pureOp, parts_congr h', parts_all h']
  case slice t x lo hi mx =>
    cases mx with
    | some m => rfl
    | none =>
      have hx : ρ x = ρ' x := h x (by simp)
      have hl : lo.map ρ = lo.map ρ' := optmap_congr fun y hy => h y (by simp at hy ⊢; simp [hy])
      have hh : hi.map ρ = hi.map ρ' := optmap_congr fun y hy => h y (by simp at hy ⊢; simp [hy])
      simp only [pureOp, hx, bnd_congr hl hh]
  case call c =>
    obtain ⟨callee, args, at_⟩ := c
    cases callee with
    | builtin b =>
      have ha : args.toList.map ρ = args.toList.map ρ' := List.map_congr_left fun x hx => h x (by simp [Call.operands]; simpa using hx)
      have h0 : (args[0]?).map ρ = (args[0]?).map ρ' := by
        cases hq : args[0]? with
        | none => rfl
        | some x => simp [h x (by simp [Call.operands]; exact Array.mem_of_getElem? hq)]
      cases b <;> first | rfl | (simp only [pureOp, h0]; done) | (simp only [pureOp, ha]; done)
    | invoke r n => rfl
    | value g => rfl
  all_goals (simp at h; simp only [pureOp, h])
theorem memOp_congr {E : Env} {H : Nat → Option Blk} {ρ ρ' : Operand → AV} {d : Nat} {op : Op} (h : ∀ x ∈ op.operands, ρ x = ρ' x) : memOp E H ρ d op = memOp E H ρ' d op := by
  have hp := pureOp_congr (E := E) h
  cases op <;> simp only [Op.operands] at h <;> first | (simp only [memOp, hp]; done) | skip
  case buildSlice t n ps =>
    have h' : ∀ x ∈ ps.toList.map (·.2), ρ x = ρ' x := fun x hx => h x (by simpa using hx)
    have e1 : (ps.toList.map fun p => (p.1, viewC E H (ρ p.2))) = ps.toList.map fun p => (p.1, viewC E H (ρ' p.2)) := List.map_congr_left fun p hp => by rw [h' p.2 (List.mem_map.2 ⟨p, hp, rfl⟩)]
    have e2 : (ps.toList.flatMap fun p => keys (ρ p.2)) = ps.toList.flatMap fun p => keys (ρ' p.2) := by
      simp only [List.flatMap_def]
      exact congrArg List.flatten (List.map_congr_left fun p hp => by rw [h' p.2 (List.mem_map.2 ⟨p, hp, rfl⟩)])
    simp only [memOp, e1, e2]
  case makeFunc fn first cap =>
    cases fn <;> first | rfl | skip
    have hc : cap.toList.map ρ = cap.toList.map ρ' := List.map_congr_left fun x hx => h x (by simp; exact .inr (by simpa using hx))
    simp only [memOp, hc]
  case slice t x lo hi mx =>
    cases mx with
    | some m => simp only [memOp, hp]
    | none =>
      have hx : ρ x = ρ' x := h x (by simp)
      have hl : lo.map ρ = lo.map ρ' := optmap_congr fun y hy => h y (by simp at hy ⊢; simp [hy])
      have hh : hi.map ρ = hi.map ρ' := optmap_congr fun y hy => h y (by simp at hy ⊢; simp [hy])
      have hv : ∀ k, pureOp E (fun y => viewK H k (ρ y)) (.slice t x lo hi none) = pureOp E (fun y => viewK H k (ρ' y)) (.slice t x lo hi none) := fun k =>
        pureOp_congr fun y hy => by simp only [h y hy]
      simp only [memOp, hx, hv, hp]
  case call c =>
    obtain ⟨callee, args, at_⟩ := c
    cases callee with
    | builtin b =>
      have ha : ∀ x ∈ args.toList, ρ x = ρ' x := fun x hx => h x (by simp [Call.operands]; simpa using hx)
      have h0 : (args[0]?).map ρ = (args[0]?).map ρ' := by
        cases hq : args[0]? with
        | none => rfl
        | some x => simp [ha x (by simpa using Array.mem_of_getElem? hq)]
      cases b <;> first | (simp only [memOp, hp]; done) | (simp only [memOp, h0, hp]; done) | skip
      simp only [memOp]
      split
      · rename_i x y t0 t1 hargs hat
        rw [ha x (by rw [hargs]; simp), ha y (by rw [hargs]; simp)]
      · rfl
    | invoke r n => rfl
    | value g =>
      have hg : ρ g = ρ' g := h g (by simp [Call.operands])
      have ha : ∀ x ∈ args.toList, ρ x = ρ' x := fun x hx => h x (by simp [Call.operands]; exact .inr (by simpa using hx))
      have h1 : (args.toList.map fun a => view H (ρ a)) = args.toList.map fun a => view H (ρ' a) := List.map_congr_left fun x hx => by rw [ha x hx]
      have h2 : (args.toList.flatMap fun a => keys (ρ a)) = args.toList.flatMap fun a => keys (ρ' a) := by
        simp only [List.flatMap_def]
        exact congrArg List.flatten (List.map_congr_left fun x hx => by rw [ha x hx])
      simp only [memOp, hg, h1, h2]
  all_goals (simp at h; simp only [memOp, pureOp, h])
theorem view1_local {H H' : Nat → Option Blk} {v : AV} (h : ∀ k ∈ keys1 v, H' k = H k) : view1 H' v = view1 H v := by
  cases v <;> first | rfl | (simp only [view1]; rw [h _ (by simp [keys1])])
theorem view_local {H H' : Nat → Option Blk} {v : AV} (h : ∀ k ∈ keys v, H' k = H k) : view H' v = view H v := by
  cases v <;> first | rfl | skip
  case agg l => simp only [view]; congr 1; exact List.map_congr_left fun c hc => view1_local fun k hk => h k (by simp only [keys, List.mem_flatMap]; exact ⟨c, hc, hk⟩)
  case row k => exact view1_local (v := .row k) h
theorem viewC1_local {E : Env} {H H' : Nat → Option Blk} {v : AV} (h : ∀ k ∈ keys1 v, H' k = H k) : viewC1 E H' v = viewC1 E H v := by
  cases v <;> first | rfl | (simp only [viewC1]; rw [h _ (by simp [keys1])])
theorem viewC_local {E : Env} {H H' : Nat → Option Blk} {v : AV} (h : ∀ k ∈ keys v, H' k = H k) : viewC E H' v = viewC E H v := by
  cases v <;> first | rfl | skip
  case agg l => simp only [viewC]; congr 1; exact List.map_congr_left fun c hc => viewC1_local fun k hk => h k (by simp only [keys, List.mem_flatMap]; exact ⟨c, hc, hk⟩)
  case row k => exact viewC1_local (v := .row k) h
theorem needC_local {α : Type} {E : Env} {H H' : Nat → Option Blk} {t : Tr α} : ∀ {ks : List Nat}, (∀ k ∈ ks, H' k = H k) → needC E H' ks t = needC E H ks t
  | [], _ => rfl
  | k :: r, h => by
    unfold needC
    rw [h k (by simp), needC_local fun k' hk' => h k' (by simp [hk'])]
theorem filterMap_congr' {α β : Type} {f g : α → Option β} : ∀ {l : List α}, (∀ x ∈ l, f x = g x) → l.filterMap f = l.filterMap g
  | [], _ => rfl
  | x :: l, h => by
    simp only [List.filterMap_cons]
    rw [h x (by simp), filterMap_congr' fun y hy => h y (by simp [hy])]
theorem capt_local {H H' : Nat → Option Blk} : ∀ {l : List AV} {vs : List AV} {w : List (Nat × Blk)} {kr : List Nat}, l.foldr (capt H) (some ([], [], [])) = some (vs, w, kr) → (∀ k ∈ kr, H' k = H k) → l.foldr (capt H') (some ([], [], [])) = some (vs, w, kr) := by
  intro l
  induction l with
  | nil => intro vs w kr h _; exact h
  | cons c l ih =>
    intro vs w kr h hk
    simp only [List.foldr_cons] at h ⊢
    cases hr : l.foldr (capt H) (some ([], [], [])) with
    | none => rw [hr] at h; unfold capt at h; split at h <;> first | (cases h; done) | (rename_i hq; cases hq)
    | some r =>
      obtain ⟨vs0, w0, kr0⟩ := r
      rw [hr] at h
      have sub : (∀ k ∈ kr0, k ∈ kr) ∧ (∀ k, c = .ptr k 0 → k ∈ kr) := by
        unfold capt at h
        split at h
        · rename_i heq
          cases heq
          split at h
          · simp only [cond_eq_ite] at h
            split at h
            · cases h; exact ⟨fun k hk => by simp [hk], fun k hk => by cases hk; simp⟩
            · cases h
          · cases h
        · rename_i hne heq
          cases heq
          simp only [cond_eq_ite] at h
          split at h
          · rename_i hp
            cases h
            exact ⟨fun k hk => hk, fun k hk => by subst hk; cases hp⟩
          · cases h
        · cases h
      rw [ih hr fun k hk' => hk k (sub.1 k hk')]
      rw [← h]
      unfold capt
      split
      · rename_i k vs1 w1 kr1 _ heq
        cases heq
        rw [hk _ (sub.2 _ rfl)]
      · rfl
      · rfl
theorem memOp_local {E : Env} {H H' : Nat → Option Blk} {ρ : Operand → AV} {d : Nat} {op : Op} {out : Out} (hr : (memOp E H ρ d op).run = some out) (hk : ∀ k, k ∈ out.kr ∨ k ∈ out.w.map (·.1) → H' k = H k) : (memOp E H' ρ d op).run = some out := by
  have bind1 : ∀ {t : Tr AV} {ks : List Nat} {w : List (Nat × Blk)}, (t.bind fun v => Tr.ret (⟨v, w, ks⟩ : Out)).run = some out → out.kr = ks ∧ out.w = w := fun h => by
    obtain ⟨v, _, h2⟩ := Tr.run_bind_some h
    rw [← Tr.run_ret h2]; exact ⟨rfl, rfl⟩
  cases op <;> first | exact hr | skip
  case load t x =>
    simp only [memOp] at hr ⊢
    split at hr
    · exact hr
    · rename_i k o hx
      split at hr
      · rename_i cs fz hH
        have : k ∈ out.kr := by
          simp only [cond_eq_ite] at hr
          split at hr
          · rw [(bind1 hr).1]; simp
          · cases hr
        rw [hk k (.inl this), hH]; exact hr
      · cases hr
    · rename_i k sz i o hx
      split at hr
      · rename_i e sz' els p hH
        have : k ∈ out.kr := by
          simp only [cond_eq_ite] at hr
          split at hr
          · rw [(bind1 (Tr.run_need (Tr.run_need hr).2).2).1]; simp
          · cases hr
        rw [hk k (.inl this), hH]; exact hr
      · cases hr
    · cases hr
  case store t x y =>
    simp only [memOp, forceL_eq] at hr ⊢
    split at hr
    · rename_i k o hx
      split at hr
      · rename_i cs hH
        have : k ∈ out.kr := by
          simp only [cond_eq_ite] at hr
          split at hr
          · rw [← Tr.run_ret hr]; simp
          · cases hr
        rw [hk k (.inl this), hH]; exact hr
      · cases hr
    · rename_i k sz i o hx
      split at hr
      · rename_i e sz' els hH
        have : k ∈ out.kr := by
          simp only [cond_eq_ite] at hr
          split at hr
          · rw [← Tr.run_ret (Tr.run_need hr).2]; simp
          · cases hr
        rw [hk k (.inl this), hH]; exact hr
      · cases hr
    · cases hr
  case alloc t =>
    have : d ∈ out.w.map (·.1) := by
      simp only [memOp, cond_eq_ite] at hr
      split at hr
      · rw [← Tr.run_ret hr]; simp
      · cases hr
    simp only [memOp, freshKey, hk d (.inr this)] at hr ⊢; exact hr
  case box t x =>
    have : d ∈ out.w.map (·.1) := by
      simp only [memOp, cond_eq_ite] at hr
      split at hr
      · rw [← Tr.run_ret hr]; simp
      · cases hr
    simp only [memOp, freshKey, hk d (.inr this)] at hr ⊢; exact hr
  case buildSlice t n ps =>
    simp only [memOp] at hr ⊢
    split at hr
    · rename_i e sz hkd
      generalize hks : ps.toList.flatMap (fun p => keys (ρ p.2)) = ks at hr ⊢
      have hkk : ∀ k ∈ ks, H' k = H k := by
        intro k hm
        refine hk k (.inl ?_)
        simp only [cond_eq_ite] at hr
        split at hr
        · split at hr
          · split at hr
            · split at hr
              · split at hr
                · rename_i hfk
                  simp only [Bool.and_eq_true] at hfk
                  have : ks = [] := by simpa using hfk.2
                  subst this
                  cases hm
                · cases hr
              · have hr := (needC_run hr).2
                rw [forceL_eq] at hr
                rw [← Tr.run_ret hr]
                exact hm
            · cases hr
          · cases hr
        · cases hr
      have e1 : (ps.toList.map fun p => (p.1, viewC E H' (ρ p.2))) = ps.toList.map fun p => (p.1, viewC E H (ρ p.2)) := List.map_congr_left fun p hp => by
        rw [viewC_local fun k hm => hkk k (by rw [← hks]; exact List.mem_flatMap.2 ⟨p, hp, hm⟩)]
      have e2 : ks.all (isRowK H') = ks.all (isRowK H) := by
        rw [Bool.eq_iff_iff, List.all_eq_true, List.all_eq_true]
        exact ⟨fun h k hm => by have := h k hm; simp only [isRowK, hkk k hm] at this ⊢; exact this, fun h k hm => by have := h k hm; simp only [isRowK, hkk k hm] at this ⊢; exact this⟩
      have e3 : ks.filterMap (pinOf H') = ks.filterMap (pinOf H) := filterMap_congr' fun k hm => by simp only [pinOf, hkk k hm]
      have e4 : ∀ t : Tr Out, needC E H' ks t = needC E H ks t := fun t => needC_local hkk
      rw [e1, e2, e3]
      simp only [e4]
      simp only [cond_eq_ite] at hr ⊢
      split at hr
      · rename_i hc
        rw [if_pos hc]
        split at hr
        · rename_i cs hf
          split at hr
          · rename_i hall
            rw [if_pos hall]
            split at hr
            · split at hr
              · rename_i hfk
                have : d ∈ out.w.map (·.1) := by rw [forceL_eq] at hr; rw [← Tr.run_ret hr]; simp
                have hfk' : (freshKey H' d && Nat.beq sz 1 && ks.isEmpty) = true := by simp only [freshKey, hk d (.inr this)] at hfk ⊢; exact hfk
                rw [if_pos hfk']; exact hr
              · cases hr
            · exact hr
          · cases hr
        · cases hr
      · cases hr
    · cases hr
  case makeSlice t l c =>
    simp only [memOp] at hr ⊢
    split at hr
    · simp only [cond_eq_ite] at hr ⊢
      split at hr
      · rename_i hc
        have : d ∈ out.w.map (·.1) := by rw [← Tr.run_ret (Tr.run_need hr).2]; simp
        simp only [freshKey, hk d (.inr this)] at hc ⊢
        rw [if_pos hc]; exact hr
      · cases hr
    · cases hr
  case makeFunc fn first cap =>
    cases fn <;> first | exact hr | skip
    simp only [memOp, cond_eq_ite] at hr ⊢
    split at hr
    · rename_i hc
      rw [if_pos hc]
      split at hr
      · rename_i vs w kr hf
        rw [capt_local (H' := H') hf fun k hkk => hk k (.inl (by rw [← Tr.run_ret hr]; exact hkk))]
        exact hr
      · cases hr
    · cases hr
  case indexAddr t x i =>
    simp only [memOp] at hr ⊢
    split at hr
    · rename_i k kk j hx hi
      split at hr
      · rename_i e sz els p e' esz hH hkd
        have : k ∈ out.kr := by
          simp only [cond_eq_ite] at hr
          split at hr
          · rw [← Tr.run_ret (Tr.run_need hr).2]; simp
          · cases hr
        rw [hk k (.inl this), hH, hkd]; exact hr
      · cases hr
    · exact hr
    · exact hr
  case slice t x lo hi mx =>
    cases mx with
    | some m => exact hr
    | none =>
    simp only [memOp] at hr ⊢
    split at hr
    · rename_i k hx
      have hv : H' k = H k → ∀ y, viewK H' k (ρ y) = viewK H k (ρ y) := fun he y => by
        cases ρ y <;> first | rfl | (simp only [viewK, he])
      split at hr
      · rename_i hH
        have : k ∈ out.kr := by rw [(bind1 hr).1]; simp
        have he := hk k (.inl this)
        rw [he, hH]
        simp only [hv he]
        exact hr
      · rename_i hH
        have : k ∈ out.kr := by rw [(bind1 hr).1]; simp
        have he := hk k (.inl this)
        rw [he, hH]
        simp only [hv he]
        exact hr
      · cases hr
    · exact hr
  case convert s t x =>
    simp only [memOp] at hr ⊢
    split at hr
    · exact hr
    · exact hr
    · exact hr
    · rename_i k e sz hx hs ht
      split at hr
      · rename_i he hH
        have : k ∈ out.kr := by rw [← Tr.run_ret (Tr.run_need hr).2]; simp
        rw [he, hk k (.inl this), hH]; exact hr
      · rename_i he hH
        have : k ∈ out.kr := by rw [← Tr.run_ret (Tr.run_need hr).2]; simp
        rw [he, hk k (.inl this), hH]; exact hr
      · cases hr
    · rename_i k e0 sz0 e sz hx hs ht
      split at hr
      · rename_i he hH
        have : k ∈ out.kr := by
          simp only [cond_eq_ite] at hr
          split at hr
          · rw [← Tr.run_ret hr]; simp
          · cases hr
        rw [he, hk k (.inl this), hH]; exact hr
      · cases hr
    · exact hr
  case call c =>
    obtain ⟨callee, args, at_⟩ := c
    cases callee with
    | builtin b =>
      cases b <;> first | exact hr | skip
      case append =>
        simp only [memOp] at hr ⊢
        split at hr
        · rename_i x y t0 t1 hargs hat
          split at hr
          · rename_i e esz hkd
            simp only [cond_eq_ite] at hr ⊢
            split at hr
            · rename_i hc
              have srcL : ∀ {news : List (List AV)} {kr : List Nat}, srcOf H esz (ρ y) (E.kind t1) = some (news, kr) → (∀ k ∈ kr, k ∈ out.kr) → srcOf H' esz (ρ y) (E.kind t1) = some (news, kr) := fun {news kr} hs hkr => by
                unfold srcOf at hs ⊢
                split at hs
                · exact hs
                · exact hs
                · rename_i k e' sz' hk1 hk2
                  split at hs
                  · rename_i hH
                    have : k ∈ kr := by
                      simp only [cond_eq_ite] at hs
                      split at hs
                      · cases hs; simp
                      · cases hs
                    rw [hk k (.inl (hkr k this)), hH]; exact hs
                  · rename_i hH
                    have : k ∈ kr := by
                      simp only [cond_eq_ite] at hs
                      split at hs
                      · cases hs; simp
                      · cases hs
                    rw [hk k (.inl (hkr k this)), hH]; exact hs
                  · cases hs
                · exact hs
                · cases hs
              have go : d ∈ out.w.map (·.1) → (!Nat.beq esz 0 && freshKey H' d && Nat.beq (E.zero e).length esz) = true := fun hm => by
                simp only [freshKey, hk d (.inr hm)] at hc ⊢; exact hc
              split at hr
              · rename_i news kr hs hx
                have ho := Tr.run_ret (Tr.run_need hr).2
                rw [if_pos (go (by rw [← ho]; simp)), srcL hs (fun k hk => by rw [← ho]; exact hk), hx]
                exact hr
              · rename_i news kr sz n f hs hx
                split at hr
                · rename_i hb
                  have ho := Tr.run_ret (Tr.run_need hr).2
                  rw [if_pos (go (by rw [← ho]; simp)), srcL hs (fun k hk => by rw [← ho]; exact hk), hx]
                  simp only
                  rw [if_pos hb]
                  exact hr
                · cases hr
              · rename_i news kr k hs hx
                split at hr
                · rename_i e' sz els p hH
                  split at hr
                  · cases hr
                  · rename_i hb
                    have ho := Tr.run_ret (Tr.run_need hr).2
                    rw [if_pos (go (by rw [← ho]; simp)), srcL hs (fun k hk => by rw [← ho]; exact List.mem_cons_of_mem _ hk), hx]
                    simp only
                    rw [hk k (.inl (by rw [← ho]; simp)), hH]
                    simp only
                    rw [if_neg hb]
                    exact hr
                · cases hr
              · cases hr
            · cases hr
          · cases hr
        · cases hr
      case len =>
        simp only [memOp] at hr ⊢
        split at hr
        · rename_i k e esz hx hkd
          split at hr
          · rename_i hH
            have : k ∈ out.kr := by rw [← Tr.run_ret hr]; simp
            rw [hk k (.inl this), hH]; exact hr
          · cases hr
        · exact hr
    | invoke r n => exact hr
    | value g =>
      simp only [memOp] at hr ⊢
      split at hr
      · rename_i f cap hg
        split at hr
        · rename_i c hlk
          simp only [cond_eq_ite] at hr ⊢
          split at hr
          · rename_i hp
            obtain ⟨r, hc, hr2⟩ := Tr.run_bind_some hr
            have hout : out.kr = args.toList.flatMap (fun a => keys (ρ a)) ∧ ((∃ e sz els, r = .fresh e sz els ∧ d ∈ out.w.map (·.1)) ∨ ∀ e sz els, r ≠ .fresh e sz els) := by
              split at hr2
              · split at hr2
                · rename_i e sz els
                  split at hr2
                  · rw [← Tr.run_ret hr2]; exact ⟨rfl, .inl ⟨_, _, _, rfl, by simp⟩⟩
                  · cases hr2
                · rename_i hnf
                  split at hr2
                  · rw [← Tr.run_ret hr2]; exact ⟨rfl, .inr fun e sz els he => hnf e sz els he⟩
                  · cases hr2
              · split at hr2
                · rename_i hpr
                  rw [← Tr.run_ret hr2]; exact ⟨rfl, .inr fun e sz els he => by subst he; cases hpr⟩
                · cases hr2
            have hkk : ∀ k ∈ args.toList.flatMap (fun a => keys (ρ a)), H' k = H k := fun k hm => hk k (.inl (by rw [hout.1]; exact hm))
            have e1 : (args.toList.map fun a => view H' (ρ a)) = args.toList.map fun a => view H (ρ a) := List.map_congr_left fun x hx => view_local fun k hm => hkk k (List.mem_flatMap.2 ⟨x, hx, hm⟩)
            have e2 : (args.toList.flatMap fun a => keys (ρ a)).all (pinned H') = (args.toList.flatMap fun a => keys (ρ a)).all (pinned H) := by
              rw [Bool.eq_iff_iff, List.all_eq_true, List.all_eq_true]
              exact ⟨fun h k hm => by have := h k hm; simp only [pinned, hkk k hm] at this ⊢; exact this, fun h k hm => by have := h k hm; simp only [pinned, hkk k hm] at this ⊢; exact this⟩
            have e3 : (args.toList.flatMap fun a => keys (ρ a)).filterMap (pinOf H') = (args.toList.flatMap fun a => keys (ρ a)).filterMap (pinOf H) := filterMap_congr' fun k hm => by simp only [pinOf, hkk k hm]
            rw [e1, if_pos hp, Tr.run_bind, hc]
            simp only [Option.bind_some]
            rw [e2, e3]
            rcases hout.2 with ⟨e, sz, els, rfl, hd⟩ | hnf
            · simp only [freshKey, hk d (.inr hd)] at hr2 ⊢
              exact hr2
            · split at hr2
              · rename_i hs
                rw [if_pos hs]
                cases r <;> first | exact absurd rfl (hnf _ _ _) | exact hr2
              · rename_i hs
                rw [if_neg hs]
                exact hr2
          · cases hr
        · cases hr
      · cases hr
end Go.Eng
end
section
set_option linter.unusedVariables false
set_option linter.unusedSimpArgs false
set_option linter.unusedSectionVars false
namespace Go.Eng
open Go
theorem disj_not {a b : List Nat} (h : disj a b = true) {x : Nat} (hx : x ∈ a) : x ∉ b := by
  intro hb
  have := (List.all_eq_true.1 h) x hx
  simp only [Bool.not_eq_true', List.any_eq_false] at this
  exact this x hb (Nat.beq_refl x)
theorem putO_other {s : Nat → AV} {d : Option Nat} {v : AV} {t : Nat} (h : t ∉ d.toList) : putO s d v t = s t := by
  cases d with
  | none => rfl
  | some d => exact upd_other _ _ (by simpa using h)
theorem applyW_other {w : List (Nat × Blk)} : ∀ {H : Nat → Option Blk} {k : Nat}, k ∉ w.map (·.1) → applyW H w k = H k := by
  induction w with
  | nil => intro H k _; rfl
  | cons p w ih =>
    intro H k hk
    obtain ⟨j, b⟩ := p
    simp only [List.map_cons, List.mem_cons, not_or] at hk
    rw [applyW, ih hk.2, upd_other _ _ hk.1]
theorem applyW_in {w : List (Nat × Blk)} : ∀ {H H' : Nat → Option Blk} {k : Nat}, k ∈ w.map (·.1) → applyW H w k = applyW H' w k := by
  induction w with
  | nil => intro H H' k hk; cases hk
  | cons p w ih =>
    intro H H' k hk
    obtain ⟨j, b⟩ := p
    simp only [applyW]
    by_cases hw : k ∈ w.map (·.1)
    · exact ih hw
    · rw [applyW_other hw, applyW_other hw]
      simp only [List.map_cons, List.mem_cons] at hk
      rcases hk with rfl | hk
      · rw [upd_same, upd_same]
      · exact absurd hk hw
theorem applyW_comm {w w' : List (Nat × Blk)} {H : Nat → Option Blk} (h : ∀ k, k ∈ w.map (·.1) → k ∉ w'.map (·.1)) : applyW (applyW H w) w' = applyW (applyW H w') w := by
  funext k
  by_cases h1 : k ∈ w.map (·.1)
  · rw [applyW_other (h k h1), applyW_in (H' := H) h1, applyW_in (H := applyW H w') (H' := H) h1]
  · rw [applyW_other (w := w) h1]
    by_cases h2 : k ∈ w'.map (·.1)
    · rw [applyW_in (H' := H) h2]
    · rw [applyW_other h2, applyW_other h2, applyW_other h1]
theorem putO_comm {s : Nat → AV} {d d' : Option Nat} {v v' : AV} (h : ∀ t ∈ d.toList, t ∉ d'.toList) : putO (putO s d v) d' v' = putO (putO s d' v') d v := by
  funext t
  cases d with
  | none => rfl
  | some d =>
    cases d' with
    | none => rfl
    | some d' =>
      have hne : d ≠ d' := by have := h d (by simp); simpa using this
      show upd (upd s d v) d' v' t = upd (upd s d' v') d v t
      by_cases h1 : t = d
      · subst h1; rw [upd_other _ _ hne, upd_same, upd_same]
      · by_cases h2 : t = d'
        · subst h2; rw [upd_same, upd_other _ _ h1, upd_same]
        · rw [upd_other _ _ h2, upd_other _ _ h1, upd_other _ _ h1, upd_other _ _ h2]
section
variable {E : Env} {ops : List Oper}
def fpOf (ops : List Oper) (o : Oper) (fp : Fp) : Fp := ⟨slotsOfG ops o, o.dst, fp.kr, fp.kw⟩
theorem exec1_local {o : Oper} {S S1 S' : St} {fp : Fp} (h : (exec1 E o S).run = some (S1, fp)) (hs : ∀ t, t ∈ (o.op.operands.toList.filterMap fun | .tmp t => some t | _ => none) → S'.slot t = S.slot t) (hk : ∀ k, k ∈ fp.kr ∨ k ∈ fp.kw → S'.H k = S.H k) :
    ∃ v w, fp.kw = w.map (·.1) ∧ S1 = ⟨putO S.slot o.dst v, applyW S.H w⟩ ∧ (exec1 E o S').run = some (⟨putO S'.slot o.dst v, applyW S'.H w⟩, fp) := by
  unfold exec1 at h
  obtain ⟨out, h1, h2⟩ := Tr.run_bind_some h
  have := Tr.run_ret h2
  simp only [Prod.mk.injEq] at this
  obtain ⟨rfl, rfl⟩ := this
  refine ⟨out.v, out.w, rfl, rfl, ?_⟩
  have hc : ∀ x ∈ o.op.operands, opnd E S.slot x = opnd E S'.slot x := fun x hx => by
    cases x with
    | tmp t => exact (hs t (List.mem_filterMap.2 ⟨.tmp t, by simpa using hx, rfl⟩)).symm
    | _ => rfl
  have h3 := memOp_local (H' := S'.H) h1 hk
  rw [memOp_congr hc] at h3
  unfold exec1
  rw [Tr.run_bind, h3]
  rfl
theorem step1_local {o : Oper} {S S1 S' : St} {fp : Fp} (h : (step1 E ops o S).run = some (S1, fp)) (hs : ∀ t ∈ slotsOfG ops o, S'.slot t = S.slot t) (hk : ∀ k, k ∈ fp.kr ∨ k ∈ fp.kw → S'.H k = S.H k) :
    ∃ v w, fp.kw = w.map (·.1) ∧ S1 = ⟨putO S.slot o.dst v, applyW S.H w⟩ ∧ (step1 E ops o S').run = some (⟨putO S'.slot o.dst v, applyW S'.H w⟩, fp) := by
  have hs1 : ∀ t, t ∈ (o.op.operands.toList.filterMap fun | .tmp t => some t | _ => none) → S'.slot t = S.slot t := fun t ht => hs t (List.mem_append_left _ ht)
  have skip : (Tr.ret (skip1 o S)).run = some (S1, fp) → ∃ v w, fp.kw = w.map (·.1) ∧ S1 = ⟨putO S.slot o.dst v, applyW S.H w⟩ ∧ (Tr.ret (skip1 o S')).run = some (⟨putO S'.slot o.dst v, applyW S'.H w⟩, fp) := fun h => by
    have := Tr.run_ret h
    unfold skip1 at this
    simp only [Prod.mk.injEq] at this
    obtain ⟨rfl, rfl⟩ := this
    exact ⟨.undef, [], rfl, rfl, rfl⟩
  unfold step1 at h ⊢
  split at h
  · exact exec1_local h hs1 hk
  · rename_i j want hg
    split at h
    · cases h
    · rename_i t ht
      have hst : S'.slot t = S.slot t := hs t (List.mem_append_right _ (by simp [hg, ht]))
      simp only [hst]
      split at h
      · simp only [cond_eq_ite] at h ⊢
        split at h
        · rename_i hw; simp only [hw, if_true]; exact exec1_local h hs1 hk
        · rename_i hw; simp only [hw, if_false]; exact skip h
      · simp only [cond_eq_ite] at h ⊢
        split at h
        · rename_i hw; simp only [hw, if_true]; exact exec1_local h hs1 hk
        · rename_i hw; simp only [hw, if_false]; exact skip h
      · exact skip h
      · cases h
theorem diamond {oi oj : Oper} {S S1 S2 : St} {fi fj : Fp} (h1 : (step1 E ops oi S).run = some (S1, fi)) (h2 : (step1 E ops oj S1).run = some (S2, fj)) (hap : (fpOf ops oi fi).apart (fpOf ops oj fj) = true) :
    ∃ S1', (step1 E ops oj S).run = some (S1', fj) ∧ (step1 E ops oi S1').run = some (S2, fi) := by
  simp only [Fp.apart, fpOf, Bool.and_eq_true] at hap
  obtain ⟨⟨⟨⟨a1, a2⟩, a3⟩, a4⟩, a5⟩ := hap
  obtain ⟨vi, wi, i1, i2, i3⟩ := step1_local (S' := S) h1 (fun _ _ => rfl) (fun _ _ => rfl)
  obtain ⟨vj, wj, j1, j2, j3⟩ := step1_local (S' := S) h2 (fun t ht => by
      rw [i2]; refine (putO_other fun hm => ?_).symm; exact disj_not a1 hm ht) (fun k hk => by
      rw [i2]; refine (applyW_other fun hm => ?_).symm; rw [← i1] at hm; exact disj_not a4 hm (by rcases hk with hk | hk <;> simp [hk]))
  refine ⟨_, j3, ?_⟩
  obtain ⟨vi', wi', k1, k2, k3⟩ := step1_local (S' := ⟨putO S.slot oj.dst vj, applyW S.H wj⟩) h1 (fun t ht => by
      refine putO_other fun hm => ?_; exact disj_not a2 hm ht) (fun k hk => by
      refine applyW_other fun hm => ?_; rw [← j1] at hm; exact disj_not a5 hm (by rcases hk with hk | hk <;> simp [hk]))
  rw [k3]
  obtain ⟨vi2, wi2, l1, l2, l3⟩ := step1_local (S' := ⟨putO S.slot oj.dst vj, applyW S.H wj⟩) h1 (fun t ht => by
      refine putO_other fun hm => ?_; exact disj_not a2 hm ht) (fun k hk => by
      refine applyW_other fun hm => ?_; rw [← j1] at hm; exact disj_not a5 hm (by rcases hk with hk | hk <;> simp [hk]))
  have e : (⟨putO (putO S.slot oj.dst vj) oi.dst vi', applyW (applyW S.H wj) wi'⟩ : St) = S2 := by
    rw [j2, k2]
    simp only [St.mk.injEq]
    refine ⟨?_, ?_⟩
    · exact (putO_comm fun t ht => disj_not a3 ht).symm
    · refine (applyW_comm fun k hk => ?_).symm
      rw [← k1] at hk
      rw [← j1]
      intro hm
      exact disj_not a4 hk (by simp [hm])
  rw [← e]
end
end Go.Eng
end
section
set_option linter.unusedVariables false
set_option linter.unusedSimpArgs false
set_option linter.unusedSectionVars false
namespace Go.Eng
open Go
inductive RunI (E : Env) (ops : Array Oper) (F : Nat → Fp) : List Nat → St → St → Prop
  | nil (S : St) : RunI E ops F [] S S
  | cons {i : Nat} {o : Oper} {l : List Nat} {S S1 S2 : St} {fp : Fp} (hi : ops[i]? = some o) (h : (step1 E ops.toList o S).run = some (S1, fp)) (hF : F i = fpOf ops.toList o fp) (t : RunI E ops F l S1 S2) : RunI E ops F (i :: l) S S2
theorem bubble {E : Env} {ops : Array Oper} {F : Nat → Fp} {j : Nat} {l2 : List Nat} : ∀ {l1 : List Nat} {S S' : St}, RunI E ops F (l1 ++ j :: l2) S S' → (∀ i ∈ l1, (F i).apart (F j) = true) → RunI E ops F (j :: (l1 ++ l2)) S S' := by
  intro l1
  induction l1 with
  | nil => intro S S' h _; exact h
  | cons i l1 ih =>
    intro S S' h ha
    cases h with
    | cons hi h1 hF t =>
    have t' := ih t (fun k hk => ha k (by simp [hk]))
    cases t' with
    | cons hj h2 hFj t2 =>
    have hap := ha i (by simp)
    rw [hF, hFj] at hap
    obtain ⟨S1', e1, e2⟩ := diamond h1 h2 hap
    exact .cons hj e1 hFj (.cons hi e2 hF t2)
def Down (ops : Array Oper) (listed : Array Bool) : Prop := ∀ (k : Nat) (o : Oper), listed.getD k false = true → ops[k]? = some o → ∀ p ∈ preds o, listed.getD p false = true
theorem mem_preds {o : Oper} {p : Nat} : p ∈ preds o ↔ ∃ e ∈ o.after, Region.binds .any e = true ∧ e.on = p := by
  simp only [preds, List.mem_map, List.mem_filter, Array.mem_toList_iff]
  constructor
  · rintro ⟨e, ⟨h1, h2⟩, h3⟩; exact ⟨e, h1, h2, h3⟩
  · rintro ⟨e, h1, h2, h3⟩; exact ⟨e, ⟨h1, h2⟩, h3⟩
def Aheads (ops : List Oper) (acc : List Nat) : Prop := ∀ (j : Nat) (o : Oper), j < acc.length → ops[j]? = some o → ∀ i, Nat.testBit (acc.getD j 0) i = true → ∃ p ∈ preds o, i = p ∨ (p < j ∧ Nat.testBit (acc.getD p 0) i = true)
theorem fold_bits (acc : List Nat) : ∀ (l : List Nat) (m i : Nat), Nat.testBit (l.foldl (fun m i => m ||| 2 ^ i ||| acc.getD i 0) m) i = true → Nat.testBit m i = true ∨ ∃ p ∈ l, i = p ∨ Nat.testBit (acc.getD p 0) i = true := by
  intro l
  induction l with
  | nil => intro m i h; exact .inl h
  | cons p l ih =>
    intro m i h
    rcases ih _ i h with h1 | ⟨q, hq, h1⟩
    · simp only [Nat.testBit_or, Bool.or_eq_true] at h1
      rcases h1 with (h1 | h1) | h1
      · exact .inl h1
      · rw [Nat.testBit_two_pow] at h1
        exact .inr ⟨p, by simp, .inl (by simpa [eq_comm] using h1)⟩
      · exact .inr ⟨p, by simp, .inr h1⟩
    · exact .inr ⟨q, by simp [hq], h1⟩
theorem aheads_ok (ops : List Oper) : ∀ (l : List Oper) (acc : List Nat), ops.drop acc.length = l → Aheads ops acc → Aheads ops (aheads l acc) := by
  intro l
  induction l with
  | nil => intro acc _ h; exact h
  | cons o l ih =>
    intro acc hl h
    simp only [aheads]
    refine ih _ ?_ ?_
    · rw [List.length_append, ← List.drop_drop, hl]; rfl
    · intro j o' hj ho' i hb
      rw [List.length_append] at hj
      simp only [List.length_cons, List.length_nil] at hj
      by_cases hlt : j < acc.length
      · have hg : ∀ p, p < acc.length → (acc ++ [(preds o).foldl (fun m i => m ||| 2 ^ i ||| acc.getD i 0) 0]).getD p 0 = acc.getD p 0 := fun p hp => by
          simp only [List.getD_eq_getElem?_getD]; rw [List.getElem?_append_left hp]
        rw [hg j hlt] at hb
        obtain ⟨p, hp, h1⟩ := h j o' hlt ho' i hb
        refine ⟨p, hp, ?_⟩
        rcases h1 with h1 | ⟨h1, h2⟩
        · exact .inl h1
        · exact .inr ⟨h1, by rw [hg p (by omega)]; exact h2⟩
      · obtain rfl : j = acc.length := by omega
        have ho : o' = o := by
          have : (ops.drop acc.length)[0]? = some o := by rw [hl]; rfl
          rw [List.getElem?_drop] at this
          simp only [Nat.add_zero] at this
          rw [ho'] at this; cases this; rfl
        subst ho
        rw [List.getD_eq_getElem?_getD, List.getElem?_append_right (Nat.le_refl _)] at hb
        simp only [Nat.sub_self, List.getElem?_cons_zero, Option.getD_some] at hb
        rcases fold_bits acc _ _ _ hb with h1 | ⟨p, hp, h1⟩
        · simp at h1
        · refine ⟨p, hp, ?_⟩
          rcases h1 with h1 | h1
          · exact .inl h1
          · have hp : p < acc.length := by
              rcases Nat.lt_or_ge p acc.length with h | h
              · exact h
              · rw [List.getD_eq_getElem?_getD, List.getElem?_eq_none h] at h1; simp at h1
            refine .inr ⟨hp, ?_⟩
            rw [List.getD_eq_getElem?_getD, List.getElem?_append_left hp, ← List.getD_eq_getElem?_getD]
            exact h1
theorem aheads_length : ∀ (l : List Oper) (acc : List Nat), (aheads l acc).length = acc.length + l.length := by
  intro l
  induction l with
  | nil => intro acc; rfl
  | cons o l ih => intro acc; simp only [aheads, ih, List.length_append, List.length_cons, List.length_nil]; omega
theorem ahead_listed {ops : Array Oper} {listed : Array Bool} {ms : List Nat} (hms : Aheads ops.toList ms) (hml : ms.length = ops.size) (hd : Down ops listed) : ∀ (j : Nat) (o : Oper), ops[j]? = some o → (∀ p ∈ preds o, listed.getD p false = true) → ∀ i, Nat.testBit (ms.getD j 0) i = true → listed.getD i false = true := by
  intro j
  induction j using Nat.strongRecOn with
  | _ j ih =>
  intro o ho hp i hb
  have hj : j < ops.size := (Array.getElem?_eq_some_iff.1 ho).1
  obtain ⟨p, hpm, h1⟩ := hms j o (by omega) (by simpa using ho) i hb
  rcases h1 with rfl | ⟨hlt, h2⟩
  · exact hp _ hpm
  · have hop : ∃ o', ops[p]? = some o' := ⟨ops[p]'(by omega), Array.getElem?_eq_getElem (by omega)⟩
    obtain ⟨o', ho'⟩ := hop
    exact ih p hlt o' ho' (hd p o' (hp p hpm) ho') i h2
theorem any_order {X : Ctx} (hA : AllOk X.E) {ops : Array Oper} {Q : Exit → Act → World → Prop} (hdst : ∀ o ∈ ops.toList, ∀ d, o.dst = some d → d < X.N) {F : Nat → Fp} {ms : List Nat}
    (hms : Aheads ops.toList ms) (hml : ms.length = ops.size) (hord : ∀ i o, ops[i]? = some o → ∀ p ∈ preds o, p < i) (hap : ∀ i j, i < j → j < ops.size → Nat.testBit (ms.getD j 0) i = true ∨ (F i).apart (F j) = true) {Sf : St}
    (hQ : ∀ a' w' st' ρ', Rel X Sf a' w' st' ρ' → Q .normal a' w') :
    ∀ (fuel : Nat) (rest : List Nat) (listed : Array Bool) (S : St) (a : Act) (w : World) (st : Stab) (ρ : Nat → Loc), rest.length ≤ fuel → listed.size = ops.size → rest.Pairwise (· < ·) → (∀ i, i ∈ rest ↔ i < ops.size ∧ listed.getD i true = false) → Down ops listed →
      RunI X.E ops F rest S Sf → Rel X S a w st ρ → wpAny X.E.P .any ops Q fuel listed a w := by
  intro fuel
  have key : ∀ (rest : List Nat) (listed : Array Bool), listed.size = ops.size → rest.Pairwise (· < ·) → (∀ i, i ∈ rest ↔ i < ops.size ∧ listed.getD i true = false) → Region.ready .any ops listed = [] → rest = [] := by
    intro rest listed hsz hpw hmem hr
    cases rest with
    | nil => rfl
    | cons i rest =>
      have hi := (hmem i).1 (by simp)
      have : i ∈ Region.ready .any ops listed := by
        rw [mem_ready]
        refine ⟨hi.2, ops[i]'hi.1, Array.getElem?_eq_getElem hi.1, fun e he hb => ?_⟩
        have hlt := hord i _ (Array.getElem?_eq_getElem hi.1) e.on (mem_preds.2 ⟨e, he, hb, rfl⟩)
        cases hq : listed.getD e.on false with
        | true => rfl
        | false =>
          exfalso
          have h1 : listed.getD e.on true = false := by
            have hlt' : e.on < listed.size := by omega
            simp only [Array.getD_eq_getD_getElem?, Array.getElem?_eq_getElem hlt', Option.getD_some] at hq ⊢
            exact hq
          have h2 := (hmem e.on).2 ⟨by omega, h1⟩
          simp only [List.mem_cons] at h2
          rcases h2 with h2 | h2
          · omega
          · have := List.rel_of_pairwise_cons hpw h2
            omega
      rw [hr] at this; cases this
  induction fuel with
  | zero =>
    intro rest listed S a w st ρ hle hsz hpw hmem hdown hrun h
    have hr0 : rest = [] := List.length_eq_zero_iff.1 (by omega)
    subst hr0
    cases hrun
    refine ⟨?_, hQ _ _ _ _ h⟩
    cases hr : Region.ready .any ops listed with
    | nil => rfl
    | cons j l =>
      have hj : j ∈ Region.ready .any ops listed := by rw [hr]; simp
      rw [mem_ready] at hj
      obtain ⟨h1, o, h2, _⟩ := hj
      have := (hmem j).2 ⟨(Array.getElem?_eq_some_iff.1 h2).1, h1⟩
      cases this
  | succ fuel ih =>
    intro rest listed S a w st ρ hle hsz hpw hmem hdown hrun h
    refine ⟨fun hr => ?_, fun j hj => ?_⟩
    · have := key rest listed hsz hpw hmem hr
      subst this
      cases hrun
      exact hQ _ _ _ _ h
    · rw [mem_ready] at hj
      obtain ⟨hju, o, ho, hall⟩ := hj
      have hjs := (Array.getElem?_eq_some_iff.1 ho).1
      have hjr := (hmem j).2 ⟨hjs, hju⟩
      obtain ⟨l1, l2, rfl⟩ := List.append_of_mem hjr
      have hpo : ∀ p ∈ preds o, listed.getD p false = true := fun p hp => by
        obtain ⟨e, he, hb, rfl⟩ := mem_preds.1 hp
        exact hall e he hb
      have hap1 : ∀ i ∈ l1, (F i).apart (F j) = true := fun i hi => by
        have hlt : i < j := (List.pairwise_append.1 hpw).2.2 i hi j (by simp)
        rcases hap i j hlt hjs with hb | hb
        · exfalso
          have h1 := ahead_listed hms hml hdown j o ho hpo i hb
          have h2 := ((hmem i).1 (by simp [hi])).2
          have hlt' : i < listed.size := by omega
          simp only [Array.getD_eq_getD_getElem?, Array.getElem?_eq_getElem hlt', Option.getD_some] at h1 h2
          rw [h1] at h2; cases h2
        · exact hb
      have hrun' := bubble hrun hap1
      cases hrun' with
      | cons hj' h1 hF t =>
      rw [ho] at hj'; cases hj'
      have hom : o ∈ ops.toList := by have := Array.mem_of_getElem? ho; simpa using this
      refine step1_wp hA h ho (hdst o hom) h1 fun a' w' st' ρ' h' => ?_
      have hget : ∀ k (d : Bool), k ≠ j → (listed.setIfInBounds j true).getD k d = listed.getD k d := fun k d hk => getD_set_ne d (Ne.symm hk)
      refine ih (l1 ++ l2) (listed.setIfInBounds j true) _ a' w' st' ρ' (by simp only [List.length_append, List.length_cons] at hle ⊢; omega) (by simp [hsz]) (hpw.sublist (by simp)) (fun i => ?_) ?_ t h'
      · by_cases hij : i = j
        · subst hij
          have hns : i ∉ l1 ++ l2 := fun hm => by
            rcases List.mem_append.1 hm with hm | hm
            · have := (List.pairwise_append.1 hpw).2.2 i hm i (by simp); omega
            · have := List.rel_of_pairwise_cons (List.pairwise_append.1 hpw).2.1 hm; omega
          refine ⟨fun hm => absurd hm hns, fun ⟨_, hm⟩ => ?_⟩
          have hlt' : i < listed.size := by omega
          simp [hlt'] at hm
        · rw [hget i true hij, ← hmem i]
          simp [hij]
      · intro k o' hk ho' p hp
        by_cases hkj : k = j
        · subst hkj
          rw [ho] at ho'; cases ho'
          exact getD_set_true (hpo p hp)
        · rw [hget k false hkj] at hk
          exact getD_set_true (hdown k o' hk ho' p hp)
end Go.Eng
end
section
set_option linter.unusedVariables false
set_option linter.unusedSimpArgs false
set_option linter.unusedSectionVars false
namespace Go.Eng
open Go
theorem Tr.wpG_some {α : Type} {g : Prop} {t : Tr α} {Q : α → Prop} (h : t.wpG g Q) : ∃ a, Q a ∧ (g → t.run = some a) := by
  induction t with
  | ret a => exact ⟨a, h, fun _ => rfl⟩
  | ask b t f iht ihf =>
    obtain ⟨h1, h2⟩ := h
    cases b with
    | true => obtain ⟨a, q, r⟩ := iht (h1 rfl); exact ⟨a, q, fun hg => by simpa [Tr.run] using r hg⟩
    | false => obtain ⟨a, q, r⟩ := ihf (h2 rfl); exact ⟨a, q, fun hg => by simpa [Tr.run] using r hg⟩
  | need p k ih =>
    obtain ⟨h1, h2⟩ := h
    obtain ⟨a, q, r⟩ := ih h2
    exact ⟨a, q, fun hg => by simpa [Tr.run, h1.out hg] using r hg⟩
  | fail => exact h.elim
theorem applyK_eq {β : Type} : ∀ (w : List (Nat × Blk)) (H : Nat → Option Blk) (k : (Nat → Option Blk) → β), applyK H w k = k (applyW H w) := by
  intro w
  induction w with
  | nil => intro H k; rfl
  | cons p w ih => intro H k; obtain ⟨n, b⟩ := p; exact ih _ _
def Holds (S : Nat → AV) (g : Nat) (w : Bool) : Prop := S g = .bool w ∨ S g = .prop w
def SymAt (s S : Nat → AV) (t : Nat) : Prop := match s t with
  | .ifp g w v => (Holds S g w → S t = v) ∧ (¬ Holds S g w → S t = .undef)
  | v => S t = v
def SymInv (s S : Nat → AV) (r : List Oper) : Prop := ∀ t, SymAt s S t ∧ ∀ g w v, s t = .ifp g w v → ∀ o ∈ r, o.dst ≠ some g
def ChOk (S : Nat → AV) (ch : List (Nat × Bool)) : Prop := ∀ p ∈ ch, Holds S p.1 p.2
theorem any_ch {ch : List (Nat × Bool)} {S : Nat → AV} (h : ChOk S ch) {g : Nat} {w : Bool} (ha : ch.any (fun p => Nat.beq p.1 g && p.2 == w) = true) : Holds S g w := by
  obtain ⟨p, hp, hb⟩ := List.any_eq_true.1 ha
  simp only [Bool.and_eq_true, beq_iff_eq] at hb
  have h1 := beq_true hb.1
  have := h p hp
  rw [h1, hb.2] at this
  exact this
theorem clean_eq {E : Env} {s S : Nat → AV} {r : List Oper} (hI : SymInv s S r) {ch : List (Nat × Bool)} (hc : ChOk S ch) {x : Operand} (hx : cleanG ch s x = true) : opndG E ch s x = opnd E S x := by
  cases x with
  | tmp t =>
    have h := (hI t).1
    simp only [opndG, opnd]
    unfold SymAt at h
    unfold cleanG at hx
    split at h
    · rename_i g w v hs
      simp only [hs] at hx ⊢
      simp only [strip, hx, cond_true]
      exact (h.1 (any_ch hc hx)).symm
    · rename_i hne
      rw [h]
      generalize s t = v at hne
      cases v <;> first | rfl | exact absurd rfl (hne _ _ _)
  | _ => rfl
theorem symOp_exact {E : Env} {s S : Nat → AV} {r : List Oper} (hI : SymInv s S r) {ch : List (Nat × Bool)} (hc : ChOk S ch) {H : Nat → Option Blk} {d : Nat} {op : Op} {out : Out} (h : (symOp E ch s H d op).run = some out) : (memOp E H (opnd E S) d op).run = some out := by
  have gen : ∀ {op : Op}, (bif op.operands.toList.all (cleanG ch s) then memOp E H (opndG E ch s) d op else .fail : Tr Out).run = some out → (memOp E H (opnd E S) d op).run = some out := fun {op} h => by
    simp only [cond_eq_ite] at h
    split at h
    · rename_i hcl
      rw [← memOp_congr (ρ := opndG E ch s) (fun x hx => clean_eq hI hc ((List.all_eq_true.1 hcl) x (by simpa using hx)))]
      exact h
    · exact (Tr.run_fail h).elim
  cases op <;> first | exact gen h | skip
  case pick c a b =>
    simp only [symOp] at h
    obtain ⟨v, h1, h2⟩ := Tr.run_bind_some h
    simp only [memOp, pureOp, Tr.run_bind]
    suffices (pickV (opnd E S c) (opnd E S a) (opnd E S b)).run = some v by rw [this]; exact h2
    unfold pickS at h1
    simp only [cond_eq_ite] at h1
    have hcl : cleanG ch s c = true := by
      cases hq : cleanG ch s c with
      | true => rfl
      | false => rw [hq] at h1; exact (Tr.run_fail h1).elim
    rw [hcl, if_pos rfl] at h1
    have hce : opndG E ch s c = opnd E S c := clean_eq hI hc hcl
    rw [hce] at h1
    have hca : ∀ t, opnd E S c = .prop t → ChOk S (addCh c t ch) := fun t ht => by
      cases c with
      | tmp tc =>
        intro p hp
        simp only [addCh, List.mem_cons] at hp
        rcases hp with rfl | hp
        · exact .inr ht
        · exact hc p hp
      | _ => exact hc
    have asP : ∀ {x : AV} {b : Bool}, boolOf? x = some b → asProp x = .prop b := fun {x b} h => by
      cases x <;> simp [boolOf?] at h <;> subst h <;> rfl
    split at h1
    · rename_i t ht
      rw [ht]
      simp only [pickV]
      split at h1
      · rename_i x y hx hy
        split at h1
        · rename_i hcc
          simp only [Bool.and_eq_true] at hcc
          rw [← Tr.run_ret h1]
          cases t with
          | true =>
            have e := clean_eq (E := E) hI (hca true ht) hcc.1
            simp only [Tr.run, if_pos, cond_true]
            rw [← e, asP hx]
          | false =>
            have e := clean_eq (E := E) hI (hca false ht) hcc.2
            simp only [Tr.run, cond_false, Bool.false_eq_true, if_false]
            rw [← e, asP hy]
        · exact (Tr.run_fail h1).elim
      · cases t with
        | true =>
          simp only [Tr.run, if_pos] at h1 ⊢
          unfold retC at h1
          simp only [cond_eq_ite] at h1
          split at h1
          · rename_i hcc
            rw [← clean_eq (E := E) hI (hca true ht) hcc]; exact h1
          · exact (Tr.run_fail h1).elim
        | false =>
          simp only [Tr.run, Bool.false_eq_true, if_false] at h1 ⊢
          unfold retC at h1
          simp only [cond_eq_ite] at h1
          split at h1
          · rename_i hcc
            rw [← clean_eq (E := E) hI (hca false ht) hcc]; exact h1
          · exact (Tr.run_fail h1).elim
    · rename_i ht
      rw [ht]
      split at h1
      · rename_i hcc; rw [← clean_eq (E := E) hI hc hcc]; exact h1
      · exact (Tr.run_fail h1).elim
    · rename_i ht
      rw [ht]
      split at h1
      · rename_i hcc; rw [← clean_eq (E := E) hI hc hcc]; exact h1
      · exact (Tr.run_fail h1).elim
    · exact (Tr.run_fail h1).elim
theorem chain_ok {s S : Nat → AV} {r : List Oper} (hI : SymInv s S r) : ∀ (n : Nat) (g : Nat) (w : Bool) (ch : List (Nat × Bool)) (p : Prop), chain n s g w = some (ch, p) →
    (p ↔ Holds S g w) ∧ (p → ChOk S ch) ∧ (S g = .undef ∨ ∃ b, S g = .bool b ∨ S g = .prop b) := by
  intro n
  induction n with
  | zero => intro g w ch p h; cases h
  | succ n ih =>
    intro g w ch p h
    simp only [chain] at h
    have hg := (hI g).1
    unfold SymAt at hg
    have two : ∀ {g' : Nat} {w' : Bool} {v : AV} {b : Bool}, (v = .bool b ∨ v = .prop b) → ((Holds S g' w' → S g = v) ∧ (¬ Holds S g' w' → S g = .undef)) → (match chain n s g' w' with | some (l, p) => some ((g, w) :: l, p ∧ b = w) | none => none) = some (ch, p) →
        (p ↔ Holds S g w) ∧ (p → ChOk S ch) ∧ (S g = .undef ∨ ∃ b, S g = .bool b ∨ S g = .prop b) := fun {g' w' v b} hv hg h => by
      cases hc : chain n s g' w' with
      | none => rw [hc] at h; cases h
      | some lp =>
        obtain ⟨l, p'⟩ := lp
        rw [hc] at h
        simp only [Option.some.injEq, Prod.mk.injEq] at h
        obtain ⟨rfl, rfl⟩ := h
        obtain ⟨i1, i2, i3⟩ := ih g' w' l p' hc
        have hiff : (p' ∧ b = w) ↔ Holds S g w := by
          constructor
          · rintro ⟨h1, rfl⟩
            have := hg.1 (i1.1 h1)
            rcases hv with rfl | rfl
            · exact .inl this
            · exact .inr this
          · intro hh
            have hh' : Holds S g' w' := by
              rcases Classical.em (Holds S g' w') with h | h
              · exact h
              · have := hg.2 h
                rcases hh with hh | hh <;> rw [this] at hh <;> cases hh
            have := hg.1 hh'
            refine ⟨i1.2 hh', ?_⟩
            rcases hv with rfl | rfl <;> rcases hh with hh | hh <;> rw [this] at hh <;> cases hh <;> rfl
        refine ⟨hiff, fun hp q hq => ?_, ?_⟩
        · simp only [List.mem_cons] at hq
          rcases hq with rfl | hq
          · exact hiff.1 hp
          · exact i2 hp.1 q hq
        · rcases Classical.em (Holds S g' w') with h | h
          · have := hg.1 h
            rcases hv with rfl | rfl
            · exact .inr ⟨b, .inl this⟩
            · exact .inr ⟨b, .inr this⟩
          · exact .inl (hg.2 h)
    split at h
    · rename_i b hs
      simp only [hs] at hg
      simp only [Option.some.injEq, Prod.mk.injEq] at h
      obtain ⟨rfl, rfl⟩ := h
      have hiff : (b = w) ↔ Holds S g w := by
        constructor
        · rintro rfl; exact .inr hg
        · rintro (h | h) <;> rw [hg] at h <;> cases h
          rfl
      refine ⟨hiff, fun hp q hq => ?_, .inr ⟨b, .inr hg⟩⟩
      simp only [List.mem_singleton] at hq
      subst hq
      exact hiff.1 hp
    · rename_i g' w' b hs
      simp only [hs] at hg
      exact two (.inr rfl) hg h
    · rename_i g' w' b hs
      simp only [hs] at hg
      exact two (.inl rfl) hg h
    · cases h
end Go.Eng
end
section
set_option linter.unusedVariables false
set_option linter.unusedSimpArgs false
set_option linter.unusedSectionVars false
namespace Go.Eng
open Go
theorem SymAt.of_not {s S : Nat → AV} {t : Nat} (h : SymAt s S t) (hn : isIfp (s t) = false) : S t = s t := by
  unfold SymAt at h
  split at h
  · rename_i hs; rw [hs] at hn; cases hn
  · exact h
theorem SymInv.put {s S : Nat → AV} {o : Oper} {r : List Oper} (hI : SymInv s S (o :: r)) {sv ev : AV} (hnew : ∀ d, o.dst = some d → SymAt (upd s d sv) (upd S d ev) d) (hg : ∀ g w v, sv = .ifp g w v → ∀ o' ∈ r, o'.dst ≠ some g) : SymInv (putO s o.dst sv) (putO S o.dst ev) r := by
  intro t
  cases hd : o.dst with
  | none => exact ⟨(hI t).1, fun g w v hs o' ho' => (hI t).2 g w v hs o' (by simp [ho'])⟩
  | some d =>
    by_cases ht : t = d
    · subst ht
      refine ⟨hnew t hd, fun g w v hs => ?_⟩
      have : sv = .ifp g w v := by rw [← upd_same s t sv]; exact hs
      exact hg g w v this
    · have e1 : putO s (some d) sv t = s t := upd_other _ _ ht
      have e2 : putO S (some d) ev t = S t := upd_other _ _ ht
      refine ⟨?_, fun g w v hs o' ho' => (hI t).2 g w v (by rw [← e1]; exact hs) o' (by simp [ho'])⟩
      have h1 := (hI t).1
      unfold SymAt at h1 ⊢
      rw [e1, e2]
      split at h1
      · rename_i g w v hs
        have hne : g ≠ d := fun e => (hI t).2 g w v hs o (by simp) (by rw [hd, e])
        have hh : Holds (putO S (some d) ev) g w ↔ Holds S g w := by
          unfold Holds
          rw [show putO S (some d) ev g = S g from upd_other _ _ hne]
        rw [hh]
        exact h1
      · exact h1
structure Laid (ops : List Oper) : Prop where
  dst : ∀ (i j : Nat) (oi oj : Oper) (d : Nat), i < j → ops[i]? = some oi → ops[j]? = some oj → oi.dst = some d → oj.dst ≠ some d
  grd : ∀ (i : Nat) (o : Oper) (j : Nat) (w : Bool), ops[i]? = some o → o.guard = some (j, w) → j < i
def FpSub (g : List Nat × List Nat) (e : Fp) : Prop := (∀ k ∈ e.kr, k ∈ g.1) ∧ ∀ k ∈ e.kw, k ∈ g.2
structure StepFor (E : Env) (ops : List Oper) (o : Oper) (r : List Oper) (s : Nat → AV) (S : St) (lg : List (List Nat × List Nat)) (K : Cont) (s' : Nat → AV) (S' : St) (g : List Nat × List Nat) (e : Fp) : Prop where
  run : (step1 E ops o S).run = some (S', e)
  inv : SymInv s' S'.slot r
  sub : FpSub g e
  next : K s' S'.H (g :: lg)
theorem exec_for {E : Env} {o : Oper} {r : List Oper} {s : Nat → AV} {S : St} {lg : List (List Nat × List Nat)} {K : Cont} (hI : SymInv s S.slot (o :: r)) (h : execW E o.op o.dst s S.H lg K) :
    ∃ s' S' g e, (exec1 E o S).run = some (S', e) ∧ SymInv s' S'.slot r ∧ FpSub g e ∧ K s' S'.H (g :: lg) := by
  unfold execW at h
  cases hd : o.dst with
  | some d =>
    rw [hd] at h
    simp only at h
    obtain ⟨out, h1, h2⟩ := (Tr.wp_iff _ _).1 h
    rw [forceV_eq] at h2
    have h3 := symOp_exact hI (fun _ hp => by cases hp) h1
    cases hif : isIfp out.v with
    | true => rw [hif] at h2; exact h2.elim
    | false =>
    rw [hif] at h2
    simp only [cond_false] at h2
    rw [forceW_eq, applyK_eq] at h2
    refine ⟨upd s d out.v, ⟨putO S.slot o.dst out.v, applyW S.H out.w⟩, (out.kr, out.w.map (·.1)), ⟨[], o.dst, out.kr, out.w.map (·.1)⟩, ?_, ?_, ?_, h2⟩
    · unfold exec1
      rw [hd, Option.getD_some, Tr.run_bind, h3]; rfl
    · have := hI.put (sv := out.v) (ev := out.v) (fun d hd => ?_) (fun g w v hv => by rw [hv] at hif; cases hif)
      · rw [hd] at this ⊢; exact this
      · unfold SymAt
        rw [upd_same, upd_same]
        split
        · rename_i hv; rw [hv] at hif; cases hif
        · rfl
    · exact ⟨fun _ h => h, fun _ h => h⟩
  | none =>
    rw [hd] at h
    simp only at h
    obtain ⟨out, h1, h2⟩ := (Tr.wp_iff _ _).1 h
    have h3 := symOp_exact hI (fun _ hp => by cases hp) h1
    rw [forceW_eq, applyK_eq] at h2
    refine ⟨s, ⟨putO S.slot o.dst out.v, applyW S.H out.w⟩, (out.kr, out.w.map (·.1)), ⟨[], o.dst, out.kr, out.w.map (·.1)⟩, ?_, ?_, ?_, h2⟩
    · unfold exec1
      rw [hd, Option.getD_none, Tr.run_bind, h3]; rfl
    · have := hI.put (sv := out.v) (ev := out.v) (fun d hd' => by rw [hd] at hd'; cases hd') (r := r)
      intro t
      rw [hd]
      exact ⟨(hI t).1, fun g w v hs o' ho' => (hI t).2 g w v hs o' (by simp [ho'])⟩
    · exact ⟨fun _ h => h, fun _ h => h⟩
theorem skip_for {o : Oper} {r : List Oper} {s : Nat → AV} {S : St} {lg : List (List Nat × List Nat)} {K : Cont} (hI : SymInv s S.slot (o :: r)) (h : skipW o.dst s S.H lg K) :
    ∃ s' g, SymInv s' (skip1 o S).1.slot r ∧ FpSub g (skip1 o S).2 ∧ K s' (skip1 o S).1.H (g :: lg) := by
  unfold skipW at h
  refine ⟨putO s o.dst .undef, ([], []), hI.put (fun d hd => ?_) (fun g w v hv => by cases hv), ⟨fun _ h => (by cases h), fun _ h => (by cases h)⟩, ?_⟩
  · unfold SymAt; rw [upd_same, upd_same]
  · cases hd : o.dst with
    | none => rw [hd] at h; exact h
    | some d => rw [hd] at h; exact h
theorem stepW_for {E : Env} {ops : List Oper} (hL : Laid ops) {n : Nat} {o : Oper} {r : List Oper} (hr : ops.drop n = o :: r) {s : Nat → AV} {S : St} {lg : List (List Nat × List Nat)} {K : Cont} (hI : SymInv s S.slot (o :: r)) (h : stepW E ops o s S.H lg K) :
    ∃ s' S' g e, StepFor E ops o r s S lg K s' S' g e := by
  have hn : ops[n]? = some o := by
    have : (ops.drop n)[0]? = some o := by rw [hr]; rfl
    rwa [List.getElem?_drop, Nat.add_zero] at this
  cases hg : o.guard with
  | none =>
    have h' : execW E o.op o.dst s S.H lg K := by
      obtain ⟨dst, op, ty, pos, aft, gd⟩ := o
      simp only at hg; subst hg
      exact h
    obtain ⟨s', S', g, e, h1, h2, h3, h4⟩ := exec_for hI h'
    exact ⟨s', S', g, e, by unfold step1; rw [hg]; exact h1, h2, h3, h4⟩
  | some jw =>
    obtain ⟨j, want⟩ := jw
    have hjn := hL.grd n o j want hn hg
    cases hgs : guardSlot ops j with
    | none =>
      obtain ⟨dst, op, ty, pos, aft, gd⟩ := o
      simp only at hg; subst hg
      unfold stepW at h
      simp only [hgs] at h
    | some t =>
    have h' : guardW E o.op o.dst t want s S.H lg K := by
      obtain ⟨dst, op, ty, pos, aft, gd⟩ := o
      simp only at hg; subst hg
      unfold stepW at h
      simp only [hgs] at h
      exact h
    unfold guardW at h'
    have hstep : ∀ S' e, (match S.slot t with
        | .bool b => bif b == want then exec1 E o S else .ret (skip1 o S)
        | .prop b => bif b == want then exec1 E o S else .ret (skip1 o S)
        | .undef => .ret (skip1 o S)
        | _ => .fail : Tr (St × Fp)).run = some (S', e) → (step1 E ops o S).run = some (S', e) := fun S' e h => by
      unfold step1
      rw [hg]
      simp only [hgs]
      exact h
    have tnot : ∀ o' ∈ o :: r, o'.dst ≠ some t := fun o' ho' => by
      rw [← hr] at ho'
      obtain ⟨k, hk⟩ := List.getElem?_of_mem ho'
      rw [List.getElem?_drop] at hk
      have hoj : ∃ oj, ops[j]? = some oj ∧ oj.dst = some t := by
        unfold guardSlot at hgs
        cases hq : ops[j]? with
        | none => rw [hq] at hgs; cases hgs
        | some oj => rw [hq] at hgs; exact ⟨oj, rfl, hgs⟩
      obtain ⟨oj, h1, h2⟩ := hoj
      exact hL.dst j (n + k) oj o' t (by omega) h1 hk h2
    have doExec : ∀ b : Bool, (b == want) = true → S.slot t = .bool b → execW E o.op o.dst s S.H lg K → ∃ s' S' g e, StepFor E ops o r s S lg K s' S' g e := fun b hb hS h => by
      obtain ⟨s', S', g, e, h1, h2, h3, h4⟩ := exec_for hI h
      exact ⟨s', S', g, e, hstep _ _ (by rw [hS]; simp only [hb, cond_true]; exact h1), h2, h3, h4⟩
    have doSkip : ∀ b : Bool, (b == want) = false → S.slot t = .bool b → skipW o.dst s S.H lg K → ∃ s' S' g e, StepFor E ops o r s S lg K s' S' g e := fun b hb hS h => by
      obtain ⟨s', g, h2, h3, h4⟩ := skip_for hI h
      exact ⟨s', _, g, _, hstep _ _ (by rw [hS]; simp only [hb, cond_false]; rfl), h2, h3, h4⟩
    split at h'
    · rename_i hs; exact doExec true rfl ((hI t).1.of_not (by rw [hs]; rfl) |>.trans hs) h'
    · rename_i hs; exact doExec false rfl ((hI t).1.of_not (by rw [hs]; rfl) |>.trans hs) h'
    · rename_i hs; exact doSkip false rfl ((hI t).1.of_not (by rw [hs]; rfl) |>.trans hs) h'
    · rename_i hs; exact doSkip true rfl ((hI t).1.of_not (by rw [hs]; rfl) |>.trans hs) h'
    · rename_i hs
      have hS := (hI t).1.of_not (by rw [hs]; rfl) |>.trans hs
      obtain ⟨s', g, h2, h3, h4⟩ := skip_for hI h'
      exact ⟨s', _, g, _, hstep _ _ (by rw [hS]; rfl), h2, h3, h4⟩
    · rename_i want v0 x1 n1 n2 n3 n4 n5
      unfold guessW at h'
      cases hd : o.dst with
      | none => rw [hd] at h'; exact h'.elim
      | some d =>
      rw [hd] at h'
      cases hc : chain 6 s t want with
      | none => rw [hc] at h'; exact h'.elim
      | some cp =>
      obtain ⟨ch, p⟩ := cp
      rw [hc] at h'
      simp only at h'
      obtain ⟨out, h1, h2⟩ := Tr.wpG_some h'
      obtain ⟨c1, c2, c3⟩ := chain_ok hI 6 t want ch p hc
      have htd : t ≠ d := fun e => tnot o (by simp) (by rw [hd, e])
      split at h1
      · rename_i hw
        rw [forceV_eq] at h1
        rcases Classical.em (Holds S.slot t want) with hh | hh
        · have h3 := symOp_exact hI (c2 (c1.2 hh)) (h2 (c1.2 hh))
          refine ⟨_, ⟨putO S.slot o.dst out.v, applyW S.H out.w⟩, _, ⟨[], o.dst, out.kr, out.w.map (·.1)⟩, hstep _ _ ?_, ?_, ?_, by rw [hw]; exact h1⟩
          · have hex : (exec1 E o S).run = some (⟨putO S.slot o.dst out.v, applyW S.H out.w⟩, ⟨[], o.dst, out.kr, out.w.map (·.1)⟩) := by
              unfold exec1
              rw [hd, Option.getD_some, Tr.run_bind, h3]; rfl
            rcases hh with hh | hh <;> rw [hh] <;> simp only [beq_self_eq_true, cond_true] <;> exact hex
          · have := hI.put (sv := .ifp t want out.v) (ev := out.v) (fun d' hd' => ?_) (fun g w v hv o' ho' => ?_)
            · rw [hd] at this ⊢; exact this
            · rw [hd] at hd'; cases hd'
              unfold SymAt
              rw [upd_same, upd_same]
              refine ⟨fun _ => rfl, fun hn => absurd ?_ hn⟩
              unfold Holds
              rw [upd_other _ _ htd]
              exact hh
            · cases hv; exact tnot o' (by simp [ho'])
          · exact ⟨fun _ h => h, fun _ h => by simp only [hw] at h; cases h⟩
        · refine ⟨_, (skip1 o S).1, _, (skip1 o S).2, hstep _ _ ?_, ?_, ⟨fun _ h => (by cases h), fun _ h => (by cases h)⟩, h1⟩
          · rcases c3 with c3 | ⟨b, c3 | c3⟩
            · rw [c3]; rfl
            · have hb : (b == want) = false := by
                cases hq : (b == want) with
                | false => rfl
                | true => exact absurd (.inl (by rw [c3, eq_of_beq hq])) hh
              rw [c3]; simp only [hb, cond_false]; rfl
            · have hb : (b == want) = false := by
                cases hq : (b == want) with
                | false => rfl
                | true => exact absurd (.inr (by rw [c3, eq_of_beq hq])) hh
              rw [c3]; simp only [hb, cond_false]; rfl
          · have := hI.put (sv := .ifp t want out.v) (ev := .undef) (fun d' hd' => ?_) (fun g w v hv o' ho' => ?_)
            · show SymInv _ (putO S.slot o.dst .undef) r
              rw [hd] at this ⊢; exact this
            · rw [hd] at hd'; cases hd'
              unfold SymAt
              rw [upd_same, upd_same]
              refine ⟨fun hn => absurd ?_ hh, fun _ => rfl⟩
              unfold Holds at hn
              rw [upd_other _ _ htd] at hn
              exact hn
            · cases hv; exact tnot o' (by simp [ho'])
      · exact h1.elim
theorem runW_for {E : Env} {ops : List Oper} (hL : Laid ops) : ∀ (r : List Oper) (n : Nat) (s : Nat → AV) (S : St) (lg : List (List Nat × List Nat)) (K : Cont), ops.drop n = r → SymInv s S.slot r → runW E ops r s S.H lg K →
    ∃ s' S' gs es, RunL E ops r S S' es ∧ SymInv s' S'.slot [] ∧ All2 FpSub gs es ∧ K (fun t => dropI (s' t)) S'.H (gs.reverse ++ lg) := by
  intro r
  induction r with
  | nil => intro n s S lg K _ hI h; exact ⟨s, S, [], [], .nil S, hI, .nil, h⟩
  | cons o r ih =>
    intro n s S lg K hr hI h
    obtain ⟨s1, S1, g, e, h1⟩ := stepW_for (K := fun s H lg => runW E ops r s H lg K) hL hr hI h
    obtain ⟨s', S', gs, es, h2, h3, h4, h5⟩ := ih (n + 1) s1 S1 (g :: lg) K (by rw [← List.drop_drop, hr]; rfl) h1.inv h1.next
    exact ⟨s', S', g :: gs, e :: es, .cons h1.run h2, h3, .cons h1.sub h4, by simpa using h5⟩
end Go.Eng
end
section
set_option linter.unusedVariables false
set_option linter.unusedSimpArgs false
set_option linter.unusedSectionVars false
namespace Go.Eng
open Go
theorem dstsOk_spec : ∀ {ops : List Oper}, dstsOk ops = true → ∀ (i j : Nat) (oi oj : Oper) (d : Nat), i < j → ops[i]? = some oi → ops[j]? = some oj → oi.dst = some d → oj.dst ≠ some d := by
  intro ops
  induction ops with
  | nil => intro _ i j oi oj d _ hi; simp at hi
  | cons o r ih =>
    intro h i j oi oj d hij hi hj hd
    simp only [dstsOk, Bool.and_eq_true] at h
    cases j with
    | zero => omega
    | succ j =>
      simp only [List.getElem?_cons_succ] at hj
      cases i with
      | zero =>
        simp only [List.getElem?_cons_zero, Option.some.injEq] at hi
        subst hi
        rw [hd] at h
        have := (List.all_eq_true.1 h.1) oj (List.mem_of_getElem? hj)
        intro he
        rw [he] at this
        simp only [Bool.not_eq_true'] at this
        exact absurd rfl (beq_false this)
      | succ i =>
        simp only [List.getElem?_cons_succ] at hi
        exact ih h.2 i j oi oj d (by omega) hi hj hd
theorem guardsOk_spec : ∀ {ops : List Oper} {n : Nat}, guardsOk ops n = true → ∀ (i : Nat) (o : Oper) (j : Nat) (w : Bool), ops[i]? = some o → o.guard = some (j, w) → j < n + i := by
  intro ops
  induction ops with
  | nil => intro n _ i o j w hi; simp at hi
  | cons o r ih =>
    intro n h i oi j w hi hg
    simp only [guardsOk, Bool.and_eq_true] at h
    cases i with
    | zero =>
      simp only [List.getElem?_cons_zero, Option.some.injEq] at hi
      subst hi
      rw [hg] at h
      have : j < n := by have := h.1; exact of_decide_eq_true (by simpa [Nat.blt_eq] using this)
      omega
    | succ i =>
      simp only [List.getElem?_cons_succ] at hi
      have := ih h.2 i oi j w hi hg
      omega
theorem ordOk_spec : ∀ {ops : List Oper} {n : Nat}, ordOk ops n = true → ∀ (i : Nat) (o : Oper), ops[i]? = some o → ∀ p ∈ preds o, p < n + i := by
  intro ops
  induction ops with
  | nil => intro n _ i o hi; simp at hi
  | cons o r ih =>
    intro n h i oi hi p hp
    simp only [ordOk, Bool.and_eq_true] at h
    cases i with
    | zero =>
      simp only [List.getElem?_cons_zero, Option.some.injEq] at hi
      subst hi
      have : p < n := by have := (List.all_eq_true.1 h.1) p hp; exact of_decide_eq_true (by simpa [Nat.blt_eq] using this)
      omega
    | succ i =>
      simp only [List.getElem?_cons_succ] at hi
      have := ih h.2 i oi hi p hp
      omega
theorem laid_of {ops : List Oper} (h1 : dstsOk ops = true) (h2 : guardsOk ops 0 = true) : Laid ops :=
  ⟨dstsOk_spec h1, fun i o j w hi hg => by have := guardsOk_spec h2 i o j w hi hg; omega⟩
theorem apartFrom_spec {f : Fp} {ms : List Nat} {i : Nat} : ∀ {l : List Fp} {n : Nat}, apartFrom f ms i l n = true → ∀ (k : Nat) (g : Fp), l[k]? = some g → Nat.testBit (ms.getD (n + k) 0) i = true ∨ f.apart g = true := by
  intro l
  induction l with
  | nil => intro n _ k g hk; simp at hk
  | cons x l ih =>
    intro n h k g hk
    simp only [apartFrom, Bool.and_eq_true, Bool.or_eq_true] at h
    cases k with
    | zero => simp only [List.getElem?_cons_zero, Option.some.injEq] at hk; subst hk; exact h.1
    | succ k =>
      simp only [List.getElem?_cons_succ] at hk
      have := ih h.2 k g hk
      rwa [show n + 1 + k = n + (k + 1) by omega] at this
theorem allApart_spec {ms : List Nat} : ∀ {l : List Fp} {n : Nat}, allApart ms l n = true → ∀ (i j : Nat) (f g : Fp), i < j → l[i]? = some f → l[j]? = some g → Nat.testBit (ms.getD (n + j) 0) (n + i) = true ∨ f.apart g = true := by
  intro l
  induction l with
  | nil => intro n _ i j f g _ hi; simp at hi
  | cons x l ih =>
    intro n h i j f g hij hi hj
    simp only [allApart, Bool.and_eq_true] at h
    cases j with
    | zero => omega
    | succ j =>
      simp only [List.getElem?_cons_succ] at hj
      cases i with
      | zero =>
        simp only [List.getElem?_cons_zero, Option.some.injEq] at hi
        subst hi
        have := apartFrom_spec h.1 j g hj
        rwa [show n + 1 + j = n + (j + 1) by omega] at this
      | succ i =>
        simp only [List.getElem?_cons_succ] at hi
        have := ih h.2 i j f g (by omega) hi hj
        rwa [show n + 1 + j = n + (j + 1) by omega, show n + 1 + i = n + (i + 1) by omega] at this
theorem disj_mono {a b a' b' : List Nat} (h : disj a b = true) (ha : ∀ x ∈ a', x ∈ a) (hb : ∀ x ∈ b', x ∈ b) : disj a' b' = true := by
  unfold disj
  rw [List.all_eq_true]
  intro x hx
  rw [Bool.not_eq_true', List.any_eq_false]
  intro y hy
  have h1 := disj_not h (ha x hx)
  intro he
  rw [beq_true he] at h1
  exact h1 (hb y hy)
theorem apart_mono {f g f' g' : Fp} (h : f.apart g = true) (hf : f'.uses = f.uses ∧ f'.dst = f.dst ∧ (∀ k ∈ f'.kr, k ∈ f.kr) ∧ ∀ k ∈ f'.kw, k ∈ f.kw) (hg : g'.uses = g.uses ∧ g'.dst = g.dst ∧ (∀ k ∈ g'.kr, k ∈ g.kr) ∧ ∀ k ∈ g'.kw, k ∈ g.kw) : f'.apart g' = true := by
  obtain ⟨f1, f2, f3, f4⟩ := hf
  obtain ⟨g1, g2, g3, g4⟩ := hg
  simp only [Fp.apart, Bool.and_eq_true] at h ⊢
  obtain ⟨⟨⟨⟨a1, a2⟩, a3⟩, a4⟩, a5⟩ := h
  rw [f1, f2, g1, g2]
  refine ⟨⟨⟨⟨a1, a2⟩, a3⟩, disj_mono a4 f4 fun x hx => ?_⟩, disj_mono a5 g4 fun x hx => ?_⟩
  · rcases List.mem_append.1 hx with hx | hx
    · exact List.mem_append_left _ (g3 x hx)
    · exact List.mem_append_right _ (g4 x hx)
  · rcases List.mem_append.1 hx with hx | hx
    · exact List.mem_append_left _ (f3 x hx)
    · exact List.mem_append_right _ (f4 x hx)
theorem fps_get {ops : List Oper} : ∀ {l : List Oper} {gs : List (List Nat × List Nat)} {i : Nat} {o : Oper} {g : List Nat × List Nat}, l[i]? = some o → gs[i]? = some g → (fps ops l gs)[i]? = some ⟨slotsOfG ops o, o.dst, g.1, g.2⟩ := by
  intro l
  induction l with
  | nil => intro gs i o g h; simp at h
  | cons x l ih =>
    intro gs i o g h hg
    cases gs with
    | nil => simp at hg
    | cons y gs =>
      cases i with
      | zero => simp at h hg; subst h; subst hg; rfl
      | succ i => simp at h hg; simpa [fps] using ih h hg
theorem runI_of {E : Env} {ops : Array Oper} {F : Nat → Fp} : ∀ {l : List Oper} {n : Nat} {S S' : St} {es : List Fp}, ops.toList.drop n = l → RunL E ops.toList l S S' es → (∀ i o e, l[i]? = some o → es[i]? = some e → F (n + i) = fpOf ops.toList o e) → RunI E ops F (List.range' n l.length) S S' := by
  intro l
  induction l with
  | nil => intro n S S' es _ h _; cases h; exact .nil _
  | cons o l ih =>
    intro n S S' es hl h hF
    cases h with
    | cons h1 h2 =>
    have hi : ops[n]? = some o := by
      have : (ops.toList.drop n)[0]? = some o := by rw [hl]; rfl
      simpa using this
    rw [List.length_cons, List.range'_succ]
    exact .cons hi h1 (hF 0 o _ rfl rfl) (ih (by rw [← List.drop_drop, hl]; rfl) h2 fun i o e ho he => by
      have := hF (i + 1) o e (by simpa using ho) (by simpa using he)
      rwa [show n + (i + 1) = n + 1 + i by omega] at this)
theorem RunL.length {E : Env} {ops l : List Oper} {S S' : St} {es : List Fp} (h : RunL E ops l S S' es) : es.length = l.length := by
  induction h with
  | nil => rfl
  | cons _ _ ih => simp [ih]
theorem Rel.noIfp {X : Ctx} {S : St} {a : Act} {w : World} {st : Stab} {ρ : Nat → Loc} (h : Rel X S a w st ρ) (t : Nat) : isIfp (S.slot t) = false := by
  have := h.slots t
  cases hs : S.slot t <;> first | rfl | (rw [hs] at this; exact this.elim)
theorem Rel.weaken {X : Ctx} {S : St} {s : Nat → AV} {a : Act} {w : World} {st : Stab} {ρ : Nat → Loc} (h : Rel X S a w st ρ) (hs : ∀ t, s t = .any ∨ s t = S.slot t) : Rel X ⟨s, S.H⟩ a w st ρ :=
  { slots := fun t => by
      rcases hs t with h1 | h1
      · show R3 w st ρ (s t) _; rw [h1]; trivial
      · show R3 w st ρ (s t) _; rw [h1]; exact h.slots t
    size := h.size, defers := h.defers, ev := h.ev, sta := h.sta, sub := h.sub, new := h.new, heap := h.heap, mine := h.mine, apart := h.apart
    kin := fun t k hk => by
      have hk' : k ∈ keysT (s t) := hk
      rcases hs t with h1 | h1
      · rw [h1] at hk'; cases hk'
      · rw [h1] at hk'; exact h.kin t k hk'
    kinH := h.kinH, glob := h.glob }
theorem region_wp {X : Ctx} (hA : AllOk X.E) (hm : X.E.P.follows .mixedOrders = true) {id : Nat} {ops : Array Oper} {draw : Bool} (hd : ∀ o ∈ ops.toList, ∀ d, o.dst = some d → d < X.N) {Q : Exit → Act → World → Prop} {Qa : (Nat → AV) → (Nat → Option Blk) → Prop}
    {s : Nat → AV} {H : Nat → Option Blk} {a : Act} {w : World} {st : Stab} {ρ : Nat → Loc} (h : Rel X ⟨s, H⟩ a w st ρ) (h1 : dstsOk ops.toList = true) (h2 : guardsOk ops.toList 0 = true)
    (hrun : runW X.E ops.toList ops.toList s H [] fun s H lg => bif !draw || drawOk ops.toList lg then Qa s H else False)
    (hQ : ∀ s' H' a' w' st' ρ', Qa s' H' → Rel X ⟨s', H'⟩ a' w' st' ρ' → Q .normal a' w') : (Code.region id ops draw).wp X.E.P Q a w := by
  have hI : SymInv s s ops.toList := fun t => by
    have := h.noIfp t
    refine ⟨?_, fun g w v hs => by rw [show (⟨s, H⟩ : St).slot t = s t from rfl, hs] at this; cases this⟩
    unfold SymAt
    split
    · rename_i hs; rw [show (⟨s, H⟩ : St).slot t = s t from rfl, hs] at this; cases this
    · rfl
  obtain ⟨s', S', gs, es, r1, r2, r3, r4⟩ := runW_for (laid_of h1 h2) ops.toList 0 s ⟨s, H⟩ [] _ rfl hI hrun
  have hfin : ∀ a' w' st' ρ', Rel X S' a' w' st' ρ' → Qa (fun t => dropI (s' t)) S'.H → Q .normal a' w' := fun a' w' st' ρ' h' hq => by
    refine hQ _ _ _ _ _ _ hq (h'.weaken fun t => ?_)
    have := (r2 t).1
    unfold SymAt at this
    split at this
    · rename_i hs; rw [hs]; exact .inl rfl
    · rename_i hne
      refine .inr ?_
      rw [this]
      generalize s' t = v at hne
      cases v <;> first | rfl | exact absurd rfl (hne _ _ _)
  cases draw with
  | false =>
    refine wp_region ?_
    have := wp_text hA (Q := Q) hd ops.toList 0 ⟨s, H⟩ S' es a w st ρ rfl r1 h fun a' w' st' ρ' h' => hfin a' w' st' ρ' h' (by simpa using r4)
    simpa [List.range_eq_range'] using this
  | true =>
    simp only [Bool.not_true, Bool.false_or, List.append_nil, cond_eq_ite] at r4
    split at r4
    · rename_i hdr
      simp only [drawOk, Bool.and_eq_true, List.reverse_reverse] at hdr
      obtain ⟨hord, hap⟩ := hdr
      refine wp_region_any hm ?_
      have hms := aheads_ok ops.toList ops.toList [] (by simp) (fun j o hj => by simp at hj)
      have hml : (aheads ops.toList []).length = ops.size := by rw [aheads_length]; simp
      have hel := r1.length
      have hrep : ∀ (i : Nat) (d : Bool), i < ops.size → (Array.replicate ops.size false).getD i d = false := fun i d hi => by
        rw [Array.getD_eq_getD_getElem?, Array.getElem?_replicate, if_pos hi]; rfl
      have hmemr : ∀ i, i ∈ List.range' 0 ops.toList.length ↔ i < ops.size ∧ (Array.replicate ops.size false).getD i true = false := fun i => by
        rw [List.mem_range'_1]
        constructor
        · rintro ⟨_, hi⟩
          have hi : i < ops.size := by simpa using hi
          exact ⟨hi, hrep i true hi⟩
        · rintro ⟨hi, _⟩
          exact ⟨Nat.zero_le _, by simpa using hi⟩
      have hgl := r3.length
      refine any_order hA hd (F := fun i => match ops[i]? with | some o => fpOf ops.toList o (es.getD i ⟨[], none, [], []⟩) | none => ⟨[], none, [], []⟩) hms hml (fun i o ho p hp => by have := ordOk_spec hord i o (by simpa using ho) p hp; omega) ?_
        (fun a' w' st' ρ' h' => hfin a' w' st' ρ' h' r4) ops.size (List.range' 0 ops.toList.length) (Array.replicate ops.size false) ⟨s, H⟩ a _ st ρ (by simp) (by simp) List.pairwise_lt_range' hmemr ?_ (runI_of rfl r1 fun i o e ho he => ?_) h.drew
      · intro i j hij hj
        have hoi : ops[i]? = some (ops[i]'(by omega)) := Array.getElem?_eq_getElem (by omega)
        have hoj : ops[j]? = some (ops[j]'hj) := Array.getElem?_eq_getElem hj
        have hgi : gs[i]? = some (gs[i]'(by simp at hel; omega)) := List.getElem?_eq_getElem (by simp at hel; omega)
        have hgj : gs[j]? = some (gs[j]'(by simp at hel; omega)) := List.getElem?_eq_getElem (by simp at hel; omega)
        obtain ⟨ei, hei, hsi⟩ := r3.get hgi
        obtain ⟨ej, hej, hsj⟩ := r3.get hgj
        have := allApart_spec hap i j _ _ hij (fps_get (by rw [Array.getElem?_toList]; exact hoi) hgi) (fps_get (by rw [Array.getElem?_toList]; exact hoj) hgj)
        rw [Nat.zero_add, Nat.zero_add] at this
        refine this.imp (fun h => h) fun hx => apart_mono hx ?_ ?_
        · simp only [hoi, List.getD_eq_getElem?_getD, hei, Option.getD_some, fpOf]
          exact ⟨trivial, trivial, hsi.1, hsi.2⟩
        · simp only [hoj, List.getD_eq_getElem?_getD, hej, Option.getD_some, fpOf]
          exact ⟨trivial, trivial, hsj.1, hsj.2⟩
      · intro k o hk ho
        rw [hrep k false (Array.getElem?_eq_some_iff.1 ho).1] at hk
        cases hk
      · have ho' : ops[i]? = some o := by simpa using ho
        simp only [Nat.zero_add, ho', List.getD_eq_getElem?_getD, he, Option.getD_some]
    · exact r4.elim
end Go.Eng
end
section
set_option linter.unusedVariables false
set_option linter.unusedSimpArgs false
set_option linter.unusedSectionVars false
namespace Go.Eng
open Go
structure Names (B : List (Nat × Blk)) (ρ ρ' : Nat → Loc) (ps : List (Nat × Option Nat)) : Prop where
  box : ∀ k cs fz, look k B = some (.box cs fz) → ρ' k = ρ k
  row : ∀ k k', (k, some k') ∈ ps → ρ' k = ρ k'
  nil : ∀ k, (k, none) ∈ ps → ρ' k = .rowv (.slice none 0 0)
theorem PV_sl_congr {w : World} {st : Stab} {fl fl' : Bool} {sz n : Nat} {f f' : Nat → List AV} {x : Value} (h : PV w st (.sl fl' sz n f') x) (hf : ∀ i, i < n → f' i = f i) (hfl : fl = true → fl' = true) : PV w st (.sl fl sz n f) x := by
  obtain ⟨a, c, b, o, vals, rfl, q1, q2, q3, q4, q5, q6, q7, q8⟩ := R3_sl (ρ := noρ) h
  exact PV.sl fl sz n c f a b o vals q1 (fun h => q2 (hfl h)) q3 q4 (fun i hi => by rw [← hf i hi]; exact q5 i hi) q6 q7 (fun i j hi hj => by rw [← hf i hi]; exact q8 i j hi hj)
theorem PV_rda_congr {w : World} {st : Stab} {sz n : Nat} {f f' : Nat → List AV} {x : Value} (h : PV w st (.rda sz n f') x) (hf : ∀ i, i < n → f' i = f i) : PV w st (.rda sz n f) x := by
  obtain ⟨b, o, vals, rfl, q5, q6, q7, q8, q9, q10⟩ := R3_rda (ρ := noρ) h
  exact PV.rda sz n f b o vals (fun i hi => by rw [← hf i hi]; exact q5 i hi) q6 q7 (fun i j hi hj => by rw [← hf i hi]; exact q8 i j hi hj) q9 q10
theorem eqvPV {w : World} {st : Stab} {v v' : AV} {x : Value} (hp : pers1 v = true) (he : eqv1 v v') (h : PV w st v' x) : PV w st v x := by
  cases v <;> first | (cases hp; done) | skip
  case sl fl sz n f =>
    cases fl <;> cases v' <;> first | (exact he.elim) | (cases h; done) | skip
    case false.nilS =>
      simp only [eqv1] at he
      subst he
      cases h
      exact PV.sl false sz 0 0 f none 0 0 (fun _ _ => undef) (Nat.le_refl _) (fun h => by cases h) (Nat.zero_le _) (fun h => absurd h (Nat.lt_irrefl _)) (fun i hi => absurd hi (Nat.not_lt_zero _)) (fun i j hi => absurd hi (Nat.not_lt_zero _)) (fun i j hi => absurd hi (Nat.not_lt_zero _)) (fun i j hi => absurd hi (Nat.not_lt_zero _))
    case false.sl fl' sz' n' f' =>
      simp only [eqv1, cond_eq_ite] at he
      split at he
      · rename_i hs
        obtain rfl := beq_true hs
        obtain ⟨rfl, hf⟩ := he
        exact PV_sl_congr h hf (fun h => by cases h)
      · exact he.elim
    case true.sl fl' sz' n' f' =>
      cases fl' with
      | false => exact he.elim
      | true =>
        simp only [eqv1, cond_eq_ite] at he
        split at he
        · rename_i hs
          obtain rfl := beq_true hs
          obtain ⟨rfl, hf⟩ := he
          exact PV_sl_congr h hf (fun h => h)
        · exact he.elim
  all_goals (cases v' <;> first | (exact he.elim) | (cases h; done) | skip)
  case int.int k n k' n' =>
    simp only [eqv1] at he
    split at he
    · rename_i hk; subst hk; subst he; exact h
    · exact he.elim
  case bool.bool b b' => simp only [eqv1] at he; subst he; exact h
  case bool.prop b b' => simp only [eqv1] at he; subst he; cases h; exact .bool _
  case prop.bool b b' => simp only [eqv1] at he; subst he; cases h; exact .prop _
  case prop.prop b b' => simp only [eqv1] at he; subst he; exact h
  case str.str s s' => simp only [eqv1] at he; subst he; exact h
  case nilS.nilS => exact h
  case nilI.nilI => exact h
  case nilP.nilP => exact h
  case nilF.nilF => exact h
  case ifS.ifS => exact h
  case rd.rd l l' => simp only [eqv1] at he; subst he; exact h
  case rda.rda sz n f sz' n' f' =>
    simp only [eqv1, cond_eq_ite] at he
    split at he
    · rename_i hs
      obtain rfl := beq_true hs
      obtain ⟨rfl, hf⟩ := he
      exact PV_rda_congr h hf
    · exact he.elim
theorem eqv_pers {v v' : AV} (hp : pers1 v = true) (he : eqv1 v v') : pers1 v' = true := by
  cases v <;> first | (cases hp; done) | skip
  case sl fl sz n f => cases fl <;> cases v' <;> first | rfl | exact he.elim
  all_goals (cases v' <;> first | rfl | exact he.elim)
theorem eqvR1 {B : List (Nat × Blk)} {ρ ρ' : Nat → Loc} {ps : List (Nat × Option Nat)} (hN : Names B ρ ρ' ps) {w : World} {st : Stab} {v v' : AV} {x : Value} (hk : keyTold B v = true) (he : eqv1 v v') (hr : ∀ p ∈ rowsV v v', p ∈ ps) (h : R1 w st ρ v' x) : R1 w st ρ' v x := by
  by_cases hp : pers1 v = true
  · exact R1_of_PV (eqvPV hp he (R1_pers_PV (eqv_pers hp he) h))
  · cases v <;> first | (exact absurd rfl hp) | trivial | skip
    case undef => cases v' <;> first | exact h | exact he.elim
    case row k =>
      cases v' <;> first | (exact he.elim) | skip
      case row k' =>
        obtain ⟨a, n, c, e1, e2⟩ := h
        exact ⟨a, n, c, e1, by rw [hN.row k k' (hr _ (by simp [rowsV]))]; exact e2⟩
      case nilS =>
        cases (show PV w st .nilS x from h)
        exact ⟨none, 0, 0, rfl, hN.nil k (hr _ (by simp [rowsV]))⟩
    case ptr k o =>
      cases v' <;> first | (exact he.elim) | skip
      rename_i k' o'
      simp only [eqv1, cond_eq_ite] at he
      split at he
      · rename_i hc
        simp only [Bool.and_eq_true] at hc
        obtain rfl := beq_true hc.1
        obtain rfl := beq_true hc.2
        obtain ⟨b, e1, e2⟩ := h
        simp only [keyTold] at hk
        split at hk
        · rename_i cs fz hB
          exact ⟨b, by rw [hN.box k cs fz hB]; exact e1, e2⟩
        · cases hk
      · exact he.elim
    all_goals (cases v' <;> exact he.elim)
theorem eqvL_all2 {B : List (Nat × Blk)} {ρ ρ' : Nat → Loc} {ps : List (Nat × Option Nat)} (hN : Names B ρ ρ' ps) {w : World} {st : Stab} : ∀ {l l' : List AV} {cs : List Value}, l.all (keyTold B) = true → eqvL l l' → (∀ p ∈ rowsL l l', p ∈ ps) → All2 (R1 w st ρ) l' cs → All2 (R1 w st ρ') l cs := by
  intro l
  induction l with
  | nil =>
    intro l' cs _ he _ h
    cases l' with
    | nil => cases h; exact .nil
    | cons a r => exact he.elim
  | cons v l ih =>
    intro l' cs hk he hr h
    simp only [List.all_cons, Bool.and_eq_true] at hk
    cases l' with
    | nil => cases l <;> exact he.elim
    | cons v' l' =>
      cases h with
      | cons h1 h2 =>
      have he' : eqv1 v v' ∧ eqvL l l' := by
        cases l with
        | nil => cases l' with
          | nil => exact ⟨he, trivial⟩
          | cons a r => exact he
        | cons b r => cases l' with
          | nil => exact he
          | cons a r => exact he
      simp only [rowsL, List.mem_append] at hr
      exact .cons (eqvR1 hN hk.1 he'.1 (fun p hp => hr p (.inl hp)) h1) (ih hk.2 he'.2 (fun p hp => hr p (.inr hp)) h2)
theorem eqvL_parts : ∀ {l l' : List AV}, eqvL l l' → l.length = l'.length ∧ ∀ j, j < l.length → eqv1 (l.getD j .any) (l'.getD j .any) := by
  intro l
  induction l with
  | nil => intro l' he; cases l' with | nil => exact ⟨rfl, fun j hj => by simp at hj⟩ | cons a r => exact he.elim
  | cons v l ih =>
    intro l' he
    cases l' with
    | nil => cases l <;> exact he.elim
    | cons v' l' =>
      have he' : eqv1 v v' ∧ eqvL l l' := by
        cases l with
        | nil => cases l' with
          | nil => exact ⟨he, trivial⟩
          | cons a r => exact he
        | cons b r => cases l' with
          | nil => exact he
          | cons a r => exact he
      obtain ⟨h1, h2⟩ := ih he'.2
      refine ⟨by simp [h1], fun j hj => ?_⟩
      cases j with
      | zero => exact he'.1
      | succ j => simpa using h2 j (by simpa using hj)
theorem told0 {B : List (Nat × Blk)} {v : AV} (h : keyTold0 B v = true) : keyTold B v = true ∧ ∀ v', rowsV v v' = [] := by
  cases v <;> first | (exact ⟨h, fun v' => rfl⟩) | cases h
theorem told0L {B : List (Nat × Blk)} : ∀ {l : List AV}, l.all (keyTold0 B) = true → l.all (keyTold B) = true ∧ ∀ l', rowsL l l' = [] := by
  intro l
  induction l with
  | nil => intro _; exact ⟨rfl, fun l' => rfl⟩
  | cons v l ih =>
    intro h
    simp only [List.all_cons, Bool.and_eq_true] at h
    obtain ⟨h1, h2⟩ := ih h.2
    refine ⟨by simp [(told0 h.1).1, h1], fun l' => ?_⟩
    cases l' with
    | nil => rfl
    | cons v' l' => simp only [rowsL, (told0 h.1).2, h2, List.append_nil]
theorem eqvR3 {B : List (Nat × Blk)} {ρ ρ' : Nat → Loc} {ps : List (Nat × Option Nat)} (hN : Names B ρ ρ' ps) {w : World} {st : Stab} {v v' : AV} {x : Value} (hk : valTold B v = true) (he : eqv v v') (hr : ∀ p ∈ rowsA v v', p ∈ ps) (h : R3 w st ρ v' x) : R3 w st ρ' v x := by
  have one : ∀ {v v' : AV}, v ≠ .any → keyTold B v = true → eqv1 v v' → (∀ p ∈ rowsV v v', p ∈ ps) → R3 w st ρ v' x → (∀ y, R1 w st ρ' v y → R3 w st ρ' v y) → R3 w st ρ' v x := fun {v v'} hna hk he hr h hup => by
    refine hup x (eqvR1 hN hk he hr ?_)
    cases v' <;> first | exact h | exact h.elim | (cases v <;> first | exact absurd rfl hna | exact he.elim | (rename_i fl _ _ _; cases fl <;> exact he.elim))
  cases v
  case agg l =>
    cases v' <;> first | exact he.elim | skip
    obtain ⟨cs, e, h1, h2⟩ := h
    exact ⟨cs, e, eqvL_all2 hN hk he hr h1, h2⟩
  case clo f l =>
    cases v' <;> first | exact he.elim | skip
    rename_i f' l'
    obtain ⟨cs, e, h1⟩ := h
    simp only [eqv, cond_eq_ite] at he
    split at he
    · rename_i hf
      obtain rfl := beq_true hf
      obtain ⟨t1, t2⟩ := told0L hk
      exact ⟨cs, e, eqvL_all2 hN t1 he (fun p hp => by rw [t2] at hp; cases hp) h1⟩
    · exact he.elim
  case ifc t v =>
    cases v' <;> first | exact he.elim | skip
    rename_i t' v'
    obtain ⟨y, e, h1⟩ := h
    simp only [eqv, cond_eq_ite] at he
    split at he
    · rename_i hf
      obtain rfl := beq_true hf
      obtain ⟨t1, t2⟩ := told0 hk
      exact ⟨y, e, eqvR1 hN t1 he (fun p hp => by rw [t2] at hp; cases hp) h1⟩
    · exact he.elim
  case rd l =>
    cases v' <;> first | exact he.elim | skip
    rename_i l'
    obtain ⟨b, o, vals, rfl, q1, q2, q3⟩ := R3_rd h
    obtain ⟨e1, e2⟩ := eqvL_parts he
    refine PV.rd l b o vals (fun j hj => q1 j (by omega)) (fun j hj => q2 j (by omega)) (fun j hj => ?_)
    have hm : l.getD j .any ∈ l := by rw [List.getD_eq_getElem?_getD, List.getElem?_eq_getElem hj]; exact List.getElem_mem hj
    exact eqvPV ((List.all_eq_true.1 hk) _ hm) (e2 j hj) (q3 j (by omega))
  case tup l => exact he.elim
  case fresh e sz els => exact he.elim
  case ifp g w v => exact he.elim
  case any => trivial
  all_goals exact one (by simp) hk he hr h (fun y hy => hy)
def pairOf (k : Nat) : List (Nat × Option Nat) → Option (Option Nat)
  | [] => none
  | p :: r => if p.1 = k then some p.2 else pairOf k r
theorem pairOf_mem {k : Nat} {o : Option Nat} : ∀ {ps : List (Nat × Option Nat)}, pairOf k ps = some o → (k, o) ∈ ps := by
  intro ps
  induction ps with
  | nil => intro h; cases h
  | cons p r ih =>
    intro h
    simp only [pairOf] at h
    split at h
    · rename_i hk; cases h; rw [← hk]; simp
    · exact List.mem_cons_of_mem _ (ih h)
theorem pairOf_some {k : Nat} : ∀ {ps : List (Nat × Option Nat)} {o : Option Nat}, (k, o) ∈ ps → ∃ o', pairOf k ps = some o' := by
  intro ps
  induction ps with
  | nil => intro o h; cases h
  | cons p r ih =>
    intro o h
    simp only [pairOf]
    split
    · exact ⟨_, rfl⟩
    · rename_i hk
      simp only [List.mem_cons] at h
      rcases h with h | h
      · rw [← h] at hk; exact absurd rfl hk
      · exact ih h
theorem pairs_eq {ps : List (Nat × Option Nat)} (h : pairsOk ps = true) {k : Nat} {o o' : Option Nat} (h1 : (k, o) ∈ ps) (h2 : (k, o') ∈ ps) : o = o' := by
  have := (List.all_eq_true.1 ((List.all_eq_true.1 h) _ h1)) _ h2
  cases o with
  | none => cases o' with
    | none => rfl
    | some b => simp [pairOk] at this
  | some a => cases o' with
    | none => simp [pairOk] at this
    | some b => simp [pairOk] at this; rw [this]
theorem pairs_inj {ps : List (Nat × Option Nat)} (h : pairsOk ps = true) {k k' j : Nat} (h1 : (k, some j) ∈ ps) (h2 : (k', some j) ∈ ps) : k = k' := by
  have := (List.all_eq_true.1 ((List.all_eq_true.1 h) _ h1)) _ h2
  simpa [pairOk] using this
theorem slotsHold_parts {s : Nat → AV} : ∀ {L : List (Nat × AV)} {p : Prop}, slotsHold s L p → p ∧ ∀ q ∈ L, eqv q.2 (s q.1) := by
  intro L
  induction L with
  | nil => intro p h; exact ⟨h, fun q hq => by cases hq⟩
  | cons q L ih =>
    intro p h
    obtain ⟨t, v⟩ := q
    obtain ⟨h1, h2⟩ := h
    obtain ⟨h3, h4⟩ := ih h2
    refine ⟨h3, fun q hq => ?_⟩
    simp only [List.mem_cons] at hq
    rcases hq with rfl | hq
    · exact h1
    · exact h4 q hq
theorem rowsHold_parts {H : Nat → Option Blk} {B : List (Nat × Blk)} : ∀ {ps : List (Nat × Option Nat)}, rowsHold H B ps → ∀ p ∈ ps, rowHolds H B p := by
  intro ps
  induction ps with
  | nil => intro _ p hp; cases hp
  | cons q ps ih =>
    intro h p hp
    simp only [List.mem_cons] at hp
    rcases hp with rfl | hp
    · exact h.1
    · exact ih h.2 p hp
theorem boxesHold_parts {H : Nat → Option Blk} : ∀ {B : List (Nat × Blk)} {p : Prop}, boxesHold H B p → p ∧ ∀ q ∈ B, (∀ cs fz, q.2 = .box cs fz → ∃ cs', H q.1 = some (.box cs' fz) ∧ eqvL cs cs') ∧ (∀ e sz els, q.2 ≠ .full e sz els) ∧ q.2 ≠ .dead := by
  intro B
  induction B with
  | nil => intro p h; exact ⟨h, fun q hq => by cases hq⟩
  | cons q B ih =>
    intro p h
    obtain ⟨k, b⟩ := q
    cases b with
    | box cs fz =>
      simp only [boxesHold] at h
      split at h
      · rename_i cs' fz' hH
        simp only [cond_eq_ite] at h
        split at h
        · rename_i hfz
          obtain ⟨h1, h2⟩ := h
          obtain ⟨h3, h4⟩ := ih h2
          refine ⟨h3, fun q hq => ?_⟩
          simp only [List.mem_cons] at hq
          rcases hq with rfl | hq
          · refine ⟨fun cs0 fz0 e => ?_, fun _ _ _ e => (by cases e), fun e => (by cases e)⟩
            cases e
            exact ⟨cs', by rw [hH, eq_of_beq hfz], h1⟩
          · exact h4 q hq
        · exact h.elim
      · exact h.elim
    | row e sz els pin =>
      obtain ⟨h3, h4⟩ := ih h
      refine ⟨h3, fun q hq => ?_⟩
      simp only [List.mem_cons] at hq
      rcases hq with rfl | hq
      · exact ⟨fun _ _ e => (by cases e), fun _ _ _ e => (by cases e), fun e => (by cases e)⟩
      · exact h4 q hq
    | full e sz els => exact h.elim
    | dead => exact h.elim
theorem rowsS_mem {s : Nat → AV} : ∀ {L : List (Nat × AV)} {q : Nat × AV}, q ∈ L → ∀ p ∈ rowsA q.2 (s q.1), p ∈ rowsS s L := by
  intro L
  induction L with
  | nil => intro q h; cases h
  | cons x L ih =>
    intro q h p hp
    obtain ⟨t, v⟩ := x
    simp only [rowsS, List.mem_append]
    simp only [List.mem_cons] at h
    rcases h with rfl | h
    · exact .inl hp
    · exact .inr (ih h p hp)
theorem rowsB_mem {H : Nat → Option Blk} : ∀ {B : List (Nat × Blk)} {k : Nat} {cs cs' : List AV} {fz fz' : Bool}, (k, Blk.box cs fz) ∈ B → H k = some (.box cs' fz') → ∀ p ∈ rowsL cs cs', p ∈ rowsB H B := by
  intro B
  induction B with
  | nil => intro k cs cs' fz fz' h; cases h
  | cons x B ih =>
    intro k cs cs' fz fz' h hH p hp
    simp only [List.mem_cons] at h
    rcases h with h | h
    · rw [← h]
      simp only [rowsB, List.mem_append]
      exact .inl (by rw [hH]; exact hp)
    · have := ih h hH p hp
      obtain ⟨j, b⟩ := x
      cases b with
      | box cs0 fz0 => simp only [rowsB, List.mem_append]; exact .inr this
      | row e sz els pin => exact this
      | full e sz els => exact this
      | dead => exact this
open Classical in
noncomputable def toldρ (B : List (Nat × Blk)) (ps : List (Nat × Option Nat)) (ρ : Nat → Loc) (k : Nat) : Loc := match look k B with
  | some (.box _ _) => ρ k
  | _ => match pairOf k ps with
    | some (some k') => ρ k'
    | some none => .rowv (.slice none 0 0)
    | none => ρ k
theorem told_rel {X : Ctx} {L : List (Nat × AV)} {B : List (Nat × Blk)} {s : Nat → AV} {H : Nat → Option Blk} (ht : Told L B s H) {a : Act} {w : World} {st : Stab} {ρ : Nat → Loc} (h : Rel X ⟨s, H⟩ a w st ρ) :
    ∃ ρ', Rel X ⟨slotsOfL L, blksOfL B⟩ a w st ρ' := by
  unfold Told at ht
  simp only [cond_eq_ite] at ht
  split at ht
  · rename_i hc
    simp only [Bool.and_eq_true] at hc
    obtain ⟨⟨hkt, hrn⟩, hpo⟩ := hc
    obtain ⟨hb, hsl⟩ := slotsHold_parts ht
    obtain ⟨hrow, hbx⟩ := boxesHold_parts hb
    have hrow := rowsHold_parts hrow
    generalize hps : rowsS s L ++ rowsB H B = ps at *
    simp only [keysTold, Bool.and_eq_true] at hkt
    have rowB : ∀ k o, (k, o) ∈ ps → ∃ e sz els pin, look k B = some (.row e sz els pin) := fun k o hm => by
      have := hrow _ hm
      unfold rowHolds at this
      split at this
      · exact ⟨_, _, _, _, ‹_›⟩
      · exact ⟨_, _, _, _, ‹_›⟩
      · exact this.elim
    have key1 : ∀ v v' k, keyTold B v = true → eqv1 v v' → (∀ p ∈ rowsV v v', p ∈ ps) → k ∈ keys1 v → (look k B).isSome = true := fun v v' k hk he hr hm => by
      cases v <;> first | (cases hm; done) | skip
      case row k0 =>
        simp only [keys1, List.mem_singleton] at hm
        subst hm
        cases v' <;> first | exact he.elim | skip
        case row k' => obtain ⟨_, _, _, _, hB⟩ := rowB k (some k') (hr _ (by simp [rowsV])); rw [hB]; rfl
        case nilS => obtain ⟨_, _, _, _, hB⟩ := rowB k none (hr _ (by simp [rowsV])); rw [hB]; rfl
      case ptr k0 o =>
        simp only [keys1, List.mem_singleton] at hm
        subst hm
        simp only [keyTold] at hk
        split at hk
        · rename_i hB; rw [hB]; rfl
        · cases hk
      case rp => cases hk
    have keyL : ∀ l l' k, l.all (keyTold B) = true → eqvL l l' → (∀ p ∈ rowsL l l', p ∈ ps) → (∃ c ∈ l, k ∈ keys1 c) → (look k B).isSome = true := by
      intro l
      induction l with
      | nil => rintro l' k _ _ _ ⟨c, hc, _⟩; cases hc
      | cons v l ih =>
        intro l' k hk he hr hm
        simp only [List.all_cons, Bool.and_eq_true] at hk
        cases l' with
        | nil => cases l <;> exact he.elim
        | cons v' l' =>
          have he' : eqv1 v v' ∧ eqvL l l' := by
            cases l with
            | nil => cases l' with
              | nil => exact ⟨he, trivial⟩
              | cons a r => exact he
            | cons b r => cases l' with
              | nil => exact he
              | cons a r => exact he
          simp only [rowsL, List.mem_append] at hr
          obtain ⟨c, hc, hkc⟩ := hm
          simp only [List.mem_cons] at hc
          rcases hc with rfl | hc
          · exact key1 _ v' k hk.1 he'.1 (fun p hp => hr p (.inl hp)) hkc
          · exact ih l' k hk.2 he'.2 (fun p hp => hr p (.inr hp)) ⟨c, hc, hkc⟩
    have hN : Names B ρ (toldρ B ps ρ) ps := by
      refine ⟨fun k cs fz hk => by unfold toldρ; rw [hk], fun k k' hm => ?_, fun k hm => ?_⟩
      · obtain ⟨e, sz, els, pin, hB⟩ := rowB k _ hm
        obtain ⟨o', ho'⟩ := pairOf_some hm
        have := pairs_eq hpo hm (pairOf_mem ho')
        subst this
        unfold toldρ; rw [hB, ho']
      · obtain ⟨e, sz, els, pin, hB⟩ := rowB k _ hm
        obtain ⟨o', ho'⟩ := pairOf_some hm
        have := pairs_eq hpo hm (pairOf_mem ho')
        subst this
        unfold toldρ; rw [hB, ho']
    have slotV : ∀ t, slotsOfL L t = .any ∨ ∃ v, (t, v) ∈ L ∧ slotsOfL L t = v := fun t => by
      unfold slotsOfL
      cases hl : look t L with
      | none => exact .inl rfl
      | some v => exact .inr ⟨v, look_mem hl, rfl⟩
    have own : ∀ k x, blkOf (look k B) (toldρ B ps ρ k) = some x → ∃ k', blkOf (H k') (ρ k') = some x ∧ ((k' = k ∧ ∃ cs fz, H k = some (.box cs fz)) ∨ ((k, some k') ∈ ps ∧ ∀ cs fz, H k' ≠ some (.box cs fz))) := by
      intro k x hx
      cases hB : look k B with
      | none => rw [hB] at hx; cases hl : toldρ B ps ρ k <;> rw [hl] at hx <;> cases hx
      | some b =>
        have hm := look_mem hB
        obtain ⟨b1, b2, b3⟩ := hbx _ hm
        cases b with
        | box cs fz =>
          obtain ⟨cs', hH, _⟩ := b1 cs fz rfl
          refine ⟨k, ?_, .inl ⟨rfl, cs', fz, hH⟩⟩
          rw [hB, hN.box k cs fz hB] at hx
          rw [hH]
          cases hl : ρ k <;> rw [hl] at hx <;> first | exact hx | cases hx
        | row e sz els pin =>
          have := (List.all_eq_true.1 hrn) _ hm
          obtain ⟨p, hp, hpk⟩ := List.any_eq_true.1 this
          obtain ⟨p1, p2⟩ := p
          have hpk := beq_true hpk
          simp only at hpk
          subst hpk
          cases p2 with
          | none => rw [hB, hN.nil _ hp] at hx; cases hx
          | some k' =>
            have hr := hrow _ hp
            unfold rowHolds at hr
            rw [hB] at hr
            simp only at hr
            split at hr
            · rename_i e' sz' els' pin' hH
              refine ⟨k', ?_, .inr ⟨hp, fun cs fz e => by rw [hH] at e; cases e⟩⟩
              rw [hB, hN.row _ k' hp] at hx
              rw [hH]
              cases hl : ρ k' <;> rw [hl] at hx <;> first | exact hx | cases hx
            · rename_i e' sz' els' hH
              refine ⟨k', ?_, .inr ⟨hp, fun cs fz e => by rw [hH] at e; cases e⟩⟩
              rw [hB, hN.row _ k' hp] at hx
              rw [hH]
              cases hl : ρ k' <;> rw [hl] at hx <;> first | exact hx | cases hx
            · exact hr.elim
        | full e sz els => exact absurd rfl (b2 e sz els)
        | dead => exact absurd rfl b3
    refine ⟨toldρ B ps ρ, ⟨fun t => ?_, h.size, h.defers, h.ev, h.sta, h.sub, h.new, ?_, ?_, ?_, ?_, ?_, h.glob⟩⟩
    · rcases slotV t with h1 | ⟨v, hm, h1⟩
      · show R3 w st _ (slotsOfL L t) _; rw [h1]; trivial
      · show R3 w st _ (slotsOfL L t) _; rw [h1]
        exact eqvR3 hN ((List.all_eq_true.1 hkt.1) _ hm) (hsl _ hm) (fun p hp => by rw [← hps]; exact List.mem_append_left _ (rowsS_mem hm p hp)) (h.slots t)
    · intro k b hB
      have hB : look k B = some b := hB
      have hm := look_mem hB
      obtain ⟨b1, b2, b3⟩ := hbx _ hm
      cases b with
      | box cs fz =>
        obtain ⟨cs', hH, heq⟩ := b1 cs fz rfl
        have h0 := h.heap k _ hH
        rw [hN.box k cs fz hB]
        cases hl : ρ k with
        | rowv v => rw [hl] at h0; exact h0.elim
        | blk g =>
          rw [hl] at h0
          obtain ⟨arr, t, h1, h2, h3, h4⟩ := h0
          exact ⟨arr, t, h1, eqvL_all2 hN (by simpa using (List.all_eq_true.1 hkt.2) _ hm) heq (fun p hp => by rw [← hps]; exact List.mem_append_right _ (rowsB_mem hm hH p hp)) h2, h3, h4⟩
      | row e sz els pin =>
        have := (List.all_eq_true.1 hrn) _ hm
        obtain ⟨p, hp, hpk⟩ := List.any_eq_true.1 this
        obtain ⟨p1, p2⟩ := p
        have hpk := beq_true hpk
        simp only at hpk
        subst hpk
        have hr := hrow _ hp
        unfold rowHolds at hr
        rw [hB] at hr
        cases p2 with
        | none =>
          rw [hN.nil _ hp]
          simp only at hr
          subst hr
          exact ⟨[], ⟨by simp, .inl ⟨rfl, rfl⟩⟩, .nil, by simp, fun g hg => by cases hg⟩
        | some k' =>
          simp only at hr
          split at hr
          · rename_i e' sz' els' pin' hH
            simp only [cond_eq_ite] at hr
            split at hr
            · rename_i hcc
              simp only [Bool.and_eq_true] at hcc
              obtain ⟨⟨c1, c2⟩, c3⟩ := hcc
              obtain rfl := beq_true c2
              obtain rfl := beq_true c3
              subst hr
              have h0 := h.heap k' _ hH
              rw [hN.row _ k' hp]
              cases hl : ρ k' with
              | blk g => rw [hl] at h0; exact h0.elim
              | rowv v =>
                rw [hl] at h0
                obtain ⟨vals, h1, h2, h3, h4⟩ := h0
                refine ⟨vals, h1, h2, h3, fun g hg o ho => ⟨?_, (h4 g hg o ho).2⟩⟩
                have := (h4 g hg o ho).1
                rw [this] at c1
                simpa using c1
            · exact hr.elim
          · rename_i e' sz' els' hH
            simp only [cond_eq_ite] at hr
            split at hr
            · rename_i hcc
              simp only [Bool.and_eq_true] at hcc
              obtain ⟨c2, c3⟩ := hcc
              obtain rfl := beq_true c2
              obtain rfl := beq_true c3
              subst hr
              have h0 := h.heap k' _ hH
              rw [hN.row _ k' hp]
              cases hl : ρ k' with
              | blk g => rw [hl] at h0; exact h0.elim
              | rowv v =>
                rw [hl] at h0
                obtain ⟨g, arr, rfl, h1, h2, h3, h4, h5⟩ := h0
                have hlen : arr.toList.length = els'.length * sz := by
                  rw [← h2.length]
                  exact flatten_len h3
                refine ⟨arr.toList, ⟨hlen, .inr ⟨g, els'.length, arr, rfl, Nat.zero_le _, h1, Nat.le_refl _, h4, by simpa using hlen, List.take_of_length_le (Nat.le_of_eq hlen)⟩⟩, h2, h3, fun g' hg o ho => ?_⟩
                cases hg
                exact absurd ho (h5 o)
            · exact hr.elim
          · exact hr.elim
      | full e sz els => exact absurd rfl (b2 e sz els)
      | dead => exact absurd rfl b3
    · intro k x hx
      obtain ⟨k', h1, _⟩ := own k x hx
      exact h.mine k' x h1
    · intro k j x hk hj
      obtain ⟨k', h1, h2⟩ := own k x hk
      obtain ⟨j', g1, g2⟩ := own j x hj
      have e := h.apart k' j' x h1 g1
      subst e
      rcases h2 with ⟨rfl, cs, fz, hH⟩ | ⟨h2, hH⟩ <;> rcases g2 with ⟨g2, cs', fz', gH⟩ | ⟨g2, gH⟩
      · exact g2
      · exact absurd hH (gH _ _)
      · rw [g2] at hH; exact absurd gH (hH _ _)
      · exact pairs_inj hpo h2 g2
    · intro t k hk
      have hk : k ∈ keysT (slotsOfL L t) := hk
      rcases slotV t with h1 | ⟨v, hm, h1⟩
      · rw [h1] at hk; cases hk
      · rw [h1] at hk
        have hv := (List.all_eq_true.1 hkt.1) _ hm
        have he := hsl _ hm
        have hr : ∀ p ∈ rowsA v (s t), p ∈ ps := fun p hp => by rw [← hps]; exact List.mem_append_left _ (rowsS_mem hm p hp)
        generalize s t = v' at he hr
        simp only at hv he
        have zero : ∀ c : AV, keyTold0 B c = true → k ∈ keys1 c → (look k B).isSome = true := fun c hc hkc => by
          cases c <;> first | (cases hkc; done) | skip
          case row => cases hc
          case ptr k0 o =>
            simp only [keys1, List.mem_singleton] at hkc
            subst hkc
            simp only [keyTold0, keyTold] at hc
            split at hc
            · rename_i hB; show (look _ B).isSome = true; rw [hB]; rfl
            · cases hc
          case rp => cases hc
        show (look k B).isSome = true
        cases v
        case agg l =>
          cases v' <;> first | exact he.elim | skip
          simp only [keysT, keys, List.mem_flatMap] at hk
          exact keyL l _ k hv he hr hk
        case clo f l =>
          simp only [keysT, keys, List.mem_flatMap] at hk
          obtain ⟨c, hc, hkc⟩ := hk
          exact zero c ((List.all_eq_true.1 hv) c hc) hkc
        case ifc t0 v0 => exact zero v0 hv hk
        case tup l => exact he.elim
        case row k0 => exact key1 (.row k0) v' k hv he hr hk
        case ptr k0 o0 => exact key1 (.ptr k0 o0) v' k hv he hr hk
        case rp => cases hv
        all_goals cases hk
    · intro k cs fz hB c hc k' hk'
      have hB : look k B = some (.box cs fz) := hB
      have hm := look_mem hB
      obtain ⟨cs', hH, heq⟩ := (hbx _ hm).1 cs fz rfl
      exact keyL cs cs' k' (by simpa using (List.all_eq_true.1 hkt.2) _ hm) heq (fun p hp => by rw [← hps]; exact List.mem_append_right _ (rowsB_mem hm hH p hp)) ⟨c, hc, hk'⟩
  · exact ht.elim
end Go.Eng
end
