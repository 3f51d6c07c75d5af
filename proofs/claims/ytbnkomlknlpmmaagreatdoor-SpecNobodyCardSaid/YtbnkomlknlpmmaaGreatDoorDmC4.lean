import Derived.Test.YtbnkomlknlpmmaaGreatDoorDmC3
/-
  The abstract machine: operations without effect: composite values, and all of them together.
-/
namespace Go.Dm
open Go.RowKit
variable {E : Env} {φ : Ren} {P : Program}

theorem setAt_length {cs xs : List DV} {off : Nat} (h : off + xs.length ≤ cs.length) : (setAt cs off xs).length = cs.length := by
  simp [setAt]; omega

theorem setAt_get {cs xs : List DV} {off : Nat} (h : off + xs.length ≤ cs.length) (i : Nat) : (setAt cs off xs)[i]? = if off ≤ i ∧ i < off + xs.length then xs[i - off]? else cs[i]? := by
  unfold setAt
  rw [List.append_assoc, List.getElem?_append]
  by_cases h1 : i < off
  · rw [if_pos (by simp; omega), if_neg (by omega)]
    rw [List.getElem?_take_of_lt h1]
  · rw [if_neg (by simp; omega), List.getElem?_append]
    have e : i - (cs.take off).length = i - off := by simp; omega
    rw [e]
    by_cases h2 : i < off + xs.length
    · rw [if_pos (by omega), if_pos (by omega)]
    · rw [if_neg (by omega), if_neg (by omega), List.getElem?_drop]
      congr 1; omega

theorem fold_set (off : Nat) : ∀ (l : List Value) (k : Nat) (cells : Array Value),
    ((l.zipIdx k).foldl (fun cs (x : Value × Nat) => cs.setIfInBounds (off + x.2) x.1) cells).size = cells.size ∧
    ∀ i, i < cells.size → ((l.zipIdx k).foldl (fun cs (x : Value × Nat) => cs.setIfInBounds (off + x.2) x.1) cells)[i]? = if off + k ≤ i ∧ i < off + k + l.length then l[i - (off + k)]? else cells[i]?
  | [], k, cells => ⟨rfl, fun i _ => by simp only [List.zipIdx_nil, List.foldl_nil, List.length_nil]; rw [if_neg (by omega)]⟩
  | x :: l, k, cells => by
    obtain ⟨h1, h2⟩ := fold_set off l (k + 1) (cells.setIfInBounds (off + k) x)
    simp only [List.zipIdx_cons, List.foldl_cons, List.length_cons]
    refine ⟨by rw [h1]; simp, fun i hi => ?_⟩
    rw [h2 i (by simpa using hi)]
    by_cases e : i = off + k
    · subst e
      rw [if_neg (by omega), if_pos (by omega)]
      rw [Array.getElem?_setIfInBounds]
      rw [if_pos rfl, if_pos hi]
      simp
    · by_cases g : off + (k + 1) ≤ i ∧ i < off + (k + 1) + l.length
      · rw [if_pos g, if_pos (by omega), show i - (off + k) = (i - (off + (k + 1))) + 1 by omega, List.getElem?_cons_succ]
      · rw [if_neg g, if_neg (by omega), Array.getElem?_setIfInBounds, if_neg (by omega)]

inductive PartsRel (E : Env) (φ : Ren) : List (Nat × DV) → List (Nat × Value) → Prop
  | nil : PartsRel E φ [] []
  | cons {i : Nat} {d : DV} {v : Value} {ds : List (Nat × DV)} {vs : List (Nat × Value)} (h : Rel E.σ φ d v) (k : PartsRel E φ ds vs) : PartsRel E φ ((i, d) :: ds) ((i, v) :: vs)

theorem PartsRel.map {ρ : Operand → DV} {ρ' : Operand → Value} (hρ : ∀ x, Rel E.σ φ (ρ x) (ρ' x)) : ∀ (l : List (Nat × Operand)), PartsRel E φ (l.map fun (i, x) => (i, ρ x)) (l.map fun (i, x) => (i, ρ' x))
  | [] => .nil
  | (_, x) :: l => .cons (hρ x) (PartsRel.map hρ l)

theorem fill_sound {place : Nat → Option (Nat × Nat)} : ∀ {ps : List (Nat × DV)} {qs : List (Nat × Value)} {cells r : List DV} {cells' : Array Value}, PartsRel E φ ps qs → RelL E.σ φ cells cells'.toList → fillD place cells ps = some r →
    ∃ r', Instr.fill place cells' qs = some r' ∧ RelL E.σ φ r r'.toList
  | _, _, _, _, _, .nil, hc, h => by
    simp only [fillD, Option.some.injEq] at h; subst h
    exact ⟨_, rfl, hc⟩
  | _, _, cells, r, cells', .cons (i := i) (d := d) (v := v) hd hk, hc, h => by
    unfold fillD at h
    unfold Instr.fill
    cases hp : place i with
    | none => rw [hp] at h; simp at h
    | some os =>
      obtain ⟨off, size⟩ := os
      rw [hp] at h
      simp only at h ⊢
      have hv := hd.cells E.one
      have hl := hv.length
      have hcl := hc.length
      simp only [Array.length_toList] at hl hcl
      split at h
      · rename_i hb
        simp only [Bool.and_eq_true] at hb
        have h1 := Nat.eq_of_beq_eq_true hb.1
        have h2 := Nat.le_of_ble_eq_true hb.2
        have e : ¬ (v.cells.size ≠ size ∨ off + v.cells.size > cells'.size) := by omega
        have e' : (decide (v.cells.size ≠ size) || decide (off + v.cells.size > cells'.size)) = false := by simp; omega
        rw [if_neg (by simpa using e)]
        refine fill_sound hk ?_ h
        have hf := fold_set off v.cells.toList 0 cells'
        have hz : v.cells.zipIdx.foldl (fun cs (x : Value × Nat) => cs.setIfInBounds (off + x.2) x.1) cells' = (v.cells.toList.zipIdx 0).foldl (fun cs (x : Value × Nat) => cs.setIfInBounds (off + x.2) x.1) cells' := by
          rw [← Array.foldl_toList, Array.toList_zipIdx]
        rw [hz]
        refine RelL.of_get ?_ fun j x y hx hy => ?_
        · rw [setAt_length (by omega)]; simp only [Array.length_toList]; rw [hf.1]; omega
        · rw [setAt_get (by omega)] at hx
          have hj : j < cells'.size := by
            have := (List.getElem?_eq_some_iff.1 hy).1
            simp only [Array.length_toList] at this
            rw [hf.1] at this
            exact this
          rw [Array.getElem?_toList, hf.2 j hj] at hy
          simp only [Nat.add_zero, Array.length_toList] at hy
          by_cases g : off ≤ j ∧ j < off + d.cells.length
          · rw [if_pos g] at hx
            rw [if_pos (by omega)] at hy
            obtain ⟨y', hy', hr⟩ := hv.get _ _ hx
            rw [hy'] at hy
            obtain rfl := Option.some.inj hy
            exact hr
          · rw [if_neg g] at hx
            rw [if_neg (by omega)] at hy
            obtain ⟨y', hy', hr⟩ := hc.get _ _ hx
            rw [Array.getElem?_toList] at hy'
            rw [hy'] at hy
            obtain rfl := Option.some.inj hy
            exact hr
      · simp at h

theorem places_mapM : ∀ {fs : List Field} {pl : List (Nat × Nat)}, placesD P fs = some pl → fs.mapM (fun f => (P.info? f.type).map fun i => (f.offset, i.size)) = some pl
  | [], pl, h => by simp only [placesD, Option.some.injEq] at h; subst h; rfl
  | f :: fs, pl, h => by
    simp only [placesD, Option.bind_eq_some_iff, Option.map_eq_some_iff, szOf] at h
    obtain ⟨n, ⟨i, hi, rfl⟩, l, hl, rfl⟩ := h
    simp only [List.mapM_cons, hi, Option.map_some, places_mapM hl]
    rfl

theorem zeroCells_rel {t : TypeId} {z : List DV} (h : zeroCellsD P t = some z) : ∃ v, (P.info? t).bind (·.zero) = some v ∧ RelL E.σ φ z v.cells.toList := by
  unfold zeroCellsD at h
  simp only [Option.map_eq_some_iff] at h
  obtain ⟨v, hv, rfl⟩ := h
  exact ⟨v, hv, RelL.cs _⟩

theorem buildD_sound {t : TypeId} {ps : List (Nat × DV)} {qs : Array (Nat × Value)} {d : DV} (hp : PartsRel E φ ps qs.toList) (h : buildD P t ps = some d) (w : World) : ∃ y, (Instr.build t qs).run P w = .ok y w ∧ Rel E.σ φ d y := by
  unfold buildD at h
  simp only [Option.bind_eq_some_iff] at h
  obtain ⟨z, hz, h⟩ := h
  obtain ⟨v, hv, hr⟩ := zeroCells_rel (E := E) (φ := φ) hz
  simp only [Option.bind_eq_some_iff] at hv
  obtain ⟨it, hit, hzv⟩ := hv
  split at h
  · rename_i fields hu
    simp only [Option.bind_eq_some_iff, Option.map_eq_some_iff] at h
    obtain ⟨pl, hpl, cs, hcs, rfl⟩ := h
    obtain ⟨r', hf, hrr⟩ := fill_sound hp hr hcs
    refine ⟨.agg r', run_build (P := P) w t qs r' ?_, .agg hrr⟩
    unfold Program.built
    simp only [hit, hu, hzv, places_mapM hpl]
    simpa using hf
  · rename_i n elem hu
    simp only [Option.bind_eq_some_iff, Option.map_eq_some_iff] at h
    obtain ⟨m, hm, cs, hcs, rfl⟩ := h
    obtain ⟨r', hf, hrr⟩ := fill_sound hp hr hcs
    simp only [szOf, Option.map_eq_some_iff] at hm
    obtain ⟨ie, hie, rfl⟩ := hm
    refine ⟨.agg r', run_build (P := P) w t qs r' ?_, .agg hrr⟩
    unfold Program.built
    simp only [hit, hu, hzv, hie]
    exact hf
  · simp at h

theorem RelL.map {ρ : Operand → DV} {ρ' : Operand → Value} (hρ : ∀ x, Rel E.σ φ (ρ x) (ρ' x)) : ∀ (l : List Operand), RelL E.σ φ (l.map ρ) (l.map ρ')
  | [] => .nil
  | x :: l => .cons (hρ x) (RelL.map hρ l)

theorem v_run {s : Sem Value} {x : Value} {w w' : World} (h : s.run P w = .ok x w') : (do pure (.value (← s)) : Sem Next).run P w = .ok (.value x) w' := by
  simp [h]

/-- An operation that asks no memory. -/
theorem pureOp_sound {o : Oper} {ρ : Operand → DV} {ρ' : Operand → Value} {d : DV} (hρ : ∀ x, Rel E.σ φ (ρ x) (ρ' x)) (h : pureOp P o.op ρ = some d) (w : World) :
    ∃ x, (execOp ρ' o).run P w = .ok (.value x) w ∧ Rel E.σ φ d x := by
  obtain ⟨dst, op, type, pos, after, guard⟩ := o
  simp only at h
  unfold pureOp at h
  split at h
  · simp only [Option.some.injEq] at h; subst h; exact ⟨_, rfl, hρ _⟩
  · simp only [Option.some.injEq] at h; subst h; exact ⟨_, rfl, hρ _⟩
  · rename_i c a b
    split at h
    · rename_i r hr
      have hc := hρ c
      rw [hr] at hc
      simp only [Option.some.injEq] at h; subst h
      generalize hcv : ρ' c = cv at hc
      cases hc
      refine ⟨if r then ρ' a else ρ' b, by simp [execOp, hcv, asBool], ?_⟩
      cases r
      · exact hρ b
      · exact hρ a
    · simp at h
  · rename_i t parts
    obtain ⟨y, hy, hr⟩ := buildD_sound (qs := parts.map fun (i, x) => (i, ρ' x)) (by simpa using PartsRel.map hρ parts.toList) h w
    exact ⟨y, v_run hy, hr⟩
  · rename_i x
    have hx := hρ x
    generalize hv : ρ' x = v at hx
    split at h
    all_goals (first | (simp at h; done) | (rename_i hr; rw [hr] at hx; simp only [Option.some.injEq] at h; subst h))
    · cases hx with | ptr hp => exact ⟨_, by simp only [execOp, hv]; rfl, .ptr hp⟩
    · cases hx; exact ⟨_, by simp only [execOp, hv]; rfl, .c _⟩
    · cases hx; exact ⟨_, by simp only [execOp, hv]; rfl, .c _⟩
    · cases hx with | func ha hb => exact ⟨_, by simp only [execOp, hv]; rfl, .func ha hb⟩
    · cases hx with | yieldv hp => exact ⟨_, by simp only [execOp, hv]; rfl, .yieldv hp⟩
    · cases hx with | iface hp => exact ⟨_, by simp only [execOp, hv]; rfl, .iface hp⟩
  · rename_i op t x y u
    obtain ⟨v, hv, hr⟩ := binD_sound (hρ x) (hρ y) h w
    exact ⟨v, v_run hv, hr⟩
  · rename_i op t x
    simp only [Option.bind_eq_some_iff, Option.map_eq_some_iff] at h
    obtain ⟨v, hv, r, hr, rfl⟩ := h
    exact ⟨r, v_run (by rw [(hρ x).toV_eq hv]; exact pureRun_run hr w), .c _⟩
  · rename_i src dst' x
    simp only [Option.bind_eq_some_iff, Option.map_eq_some_iff] at h
    obtain ⟨v, hv, r, hr, rfl⟩ := h
    exact ⟨r, v_run (by rw [(hρ x).toV_eq hv]; exact pureRun_run hr w), .c _⟩
  · rename_i t x
    split at h
    · simp at h
    · rename_i dd hno hu
      simp only [Option.some.injEq] at h; subst h
      refine ⟨.iface t (ρ' x), v_run ?_, .iface (hρ x)⟩
      simp only [Instr.makeInterface, Sem.run_bind, run_und hu, Result.andThen_ok]
      cases dd <;> first | rfl | exact absurd rfl (hno _)
    · simp at h
  · rename_i fn first cap
    simp only [Option.some.injEq] at h; subst h
    refine ⟨_, rfl, ?_⟩
    have e1 : first.map ρ' = ⟨first.toList.map ρ'⟩ := by apply Array.ext'; simp
    have e2 : cap.map ρ' = ⟨cap.toList.map ρ'⟩ := by apply Array.ext'; simp
    rw [e1, e2]
    exact .func (RelL.map hρ _) (RelL.map hρ _)
  · rename_i t x lo hi mx
    obtain ⟨y, hy, hr⟩ := sliceD_sound (hρ x) (RelO.map hρ lo) (RelO.map hρ hi) (RelO.map hρ mx) h w
    exact ⟨y, v_run hy, hr⟩
  · obtain ⟨y, hy, hr⟩ := fieldAddrD_sound (hρ _) h w
    exact ⟨y, v_run hy, hr⟩
  · obtain ⟨y, hy, hr⟩ := fieldD_sound (hρ _) h w
    exact ⟨y, v_run hy, hr⟩
  · obtain ⟨y, hy, hr⟩ := indexAddrD_sound (hρ _) (hρ _) h w
    exact ⟨y, v_run hy, hr⟩
  · obtain ⟨y, hy, hr⟩ := indexD_sound (hρ _) (hρ _) h w
    exact ⟨y, v_run hy, hr⟩
  · obtain ⟨y, hy, hr⟩ := assertD_sound (hρ _) h w
    exact ⟨y, v_run hy, hr⟩
  · obtain ⟨y, hy, hr⟩ := extractD_sound (hρ _) h w
    exact ⟨y, v_run hy, hr⟩
  · rename_i args argTypes
    split at h
    · rename_i x t ts ha ht
      have ha' : args = #[x] := by apply Array.ext'; simpa using ha
      have ht' : argTypes[0]? = some t := by rw [← Array.getElem?_toList, ht]; rfl
      subst ha'
      obtain ⟨y, hy, hr⟩ := lenD_sound (ty := type) ht' (hρ x) h w
      exact ⟨y, by simp [execOp, resolve, invoke, builtin, hy], hr⟩
    · simp at h
  · rename_i args argTypes
    split at h
    · rename_i x t ts ha ht
      have ha' : args = #[x] := by apply Array.ext'; simpa using ha
      have ht' : argTypes[0]? = some t := by rw [← Array.getElem?_toList, ht]; rfl
      subst ha'
      obtain ⟨y, hy, hr⟩ := capD_sound (ty := type) ht' (hρ x) h w
      exact ⟨y, by simp [execOp, resolve, invoke, builtin, hy], hr⟩
    · simp at h
  · rename_i args argTypes
    simp only [Option.bind_eq_some_iff, Option.map_eq_some_iff] at h
    obtain ⟨l, hl, r, hr, rfl⟩ := h
    have e := (RelL.map hρ args.toList).toV_eq hl
    have e' : args.map ρ' = ⟨l⟩ := by apply Array.ext'; simpa using e
    have hrun := pureRun_run hr w
    refine ⟨r, ?_, .c _⟩
    simp only [execOp, resolve, Sem.run_bind, Sem.run_pure, Result.andThen_ok, invoke, builtin, e']
    show ((Builtin.min_ _ _ _).run P w).andThen _ = _
    rw [show Builtin.min_ argTypes type ⟨l⟩ = Builtin.min_ #[] 0 ⟨l⟩ from rfl, hrun]
    rfl
  · rename_i args argTypes
    simp only [Option.bind_eq_some_iff, Option.map_eq_some_iff] at h
    obtain ⟨l, hl, r, hr, rfl⟩ := h
    have e := (RelL.map hρ args.toList).toV_eq hl
    have e' : args.map ρ' = ⟨l⟩ := by apply Array.ext'; simpa using e
    have hrun := pureRun_run hr w
    refine ⟨r, ?_, .c _⟩
    simp only [execOp, resolve, Sem.run_bind, Sem.run_pure, Result.andThen_ok, invoke, builtin, e']
    show ((Builtin.max_ _ _ _).run P w).andThen _ = _
    rw [show Builtin.max_ argTypes type ⟨l⟩ = Builtin.max_ #[] 0 ⟨l⟩ from rfl, hrun]
    rfl
  · simp at h

end Go.Dm
