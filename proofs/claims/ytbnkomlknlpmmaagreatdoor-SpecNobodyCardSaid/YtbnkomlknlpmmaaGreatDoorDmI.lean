import Derived.Test.YtbnkomlknlpmmaaGreatDoorDmH
/-
  The abstract machine: laws whose road looks into no argument, or only where a table says what is read.
-/
namespace Go.Dm
open Go.RowKit Go.ChangeShapes Go.WideShapes Go.ChangeAt

theorem cell_one {P : Program} {w : World} {r : Reach} {b : Nat} {t : TypeId} {v : Value} (h : Cell.okWide P w r b t v) : oneV v = true := by
  cases v with
  | agg cs => simp [Cell.okWide, Cell.ok] at h
  | tuple cs => simp [Cell.okWide, Cell.ok] at h
  | _ => rfl

/-- The arguments, each cell of them a name. -/
def symArgs (P : Program) : List TypeId → Nat → List DV
  | [], _ => []
  | t :: ts, i =>
    match P.underlying t with
    | some (.struct _) | some (.array _ _) => .agg ((List.range' i (P.cellsOf t)).map .sym) :: symArgs P ts (i + P.cellsOf t)
    | _ => .sym i :: symArgs P ts (i + 1)

def allCells (vs : List Value) : List Value := vs.flatMap fun v => v.cells.toList

/-- What the names stand for. -/
def symEnv (vs : List Value) : Nat → Value := fun i => ((allCells vs)[i]?).getD (.bool false)

def ArgsOk (P : Program) (W : World) (base : Nat) : List TypeId → List Value → Prop
  | [], [] => True
  | t :: ts, v :: vs => Value.okWide P W .any base t v ∧ ArgsOk P W base ts vs
  | _, _ => False

theorem argsOk_of {P : Program} {W : World} {base : Nat} : ∀ {ts : List TypeId} {vs : List Value}, vs.length = ts.length → (∀ (j : Nat) t v, ts[j]? = some t → vs[j]? = some v → Value.okWide P W .any base t v) → ArgsOk P W base ts vs
  | [], [], _, _ => trivial
  | t :: ts, v :: vs, hl, h => ⟨h 0 t v rfl rfl, argsOk_of (by simpa using hl) fun j t v h1 h2 => h (j + 1) t v h1 h2⟩
  | [], _ :: _, hl, _ => by simp at hl
  | _ :: _, [], hl, _ => by simp at hl

theorem cells_of_one {v : Value} (h : oneV v = true) : v.cells = #[v] := by cases v <;> simp_all [oneV, Value.cells]

theorem okWide_cells {P : Program} {W : World} {base : Nat} {t : TypeId} {v : Value} (h : Value.okWide P W .any base t v) : ∀ c ∈ v.cells.toList, oneV c = true := by
  unfold Value.okWide at h
  have row : ∀ cs : Array Value, Row.okWide P W .any base t cs → ∀ c ∈ cs.toList, oneV c = true := by
    rintro cs ⟨ts, _, _, hall⟩ c hc
    obtain ⟨i, hi⟩ := List.getElem?_of_mem hc
    obtain ⟨u, _, hu⟩ := hall i c (by simpa using hi)
    exact cell_one hu
  split at h
  · obtain ⟨cs, rfl, _, hr⟩ := h
    exact row cs hr
  · obtain ⟨cs, rfl, _, hr⟩ := h
    exact row cs hr
  · have h1 := cell_one h
    rw [cells_of_one h1]
    intro c hc
    simp at hc
    subst hc
    exact h1

theorem allCells_one {P : Program} {W : World} {base : Nat} : ∀ {ts : List TypeId} {vs : List Value}, ArgsOk P W base ts vs → ∀ c ∈ allCells vs, oneV c = true
  | [], [], _, c, hc => by simp [allCells] at hc
  | t :: ts, v :: vs, h, c, hc => by
    simp only [allCells, List.flatMap_cons, List.mem_append] at hc
    rcases hc with hc | hc
    · exact okWide_cells h.1 c hc
    · exact allCells_one h.2 c hc
  | [], _ :: _, h, _, _ => h.elim
  | _ :: _, [], h, _, _ => h.elim

theorem symEnv_one {P : Program} {W : World} {base : Nat} {ts : List TypeId} {vs : List Value} (h : ArgsOk P W base ts vs) (i : Nat) : oneV (symEnv vs i) = true := by
  unfold symEnv
  cases hc : (allCells vs)[i]? with
  | none => rfl
  | some c => exact allCells_one h c (List.mem_of_getElem? hc)

theorem rel_range {σ : Nat → Value} {φ : Ren} : ∀ (l : List Value) (i : Nat), (∀ j, j < l.length → σ (i + j) = (l[j]?).getD (.bool false)) → RelL σ φ ((List.range' i l.length).map .sym) l
  | [], i, _ => .nil
  | v :: l, i, h => by
    simp only [List.length_cons, List.range'_succ, List.map_cons]
    have h0 := h 0 (by simp)
    simp only [Nat.add_zero, List.getElem?_cons_zero, Option.getD_some] at h0
    refine .cons (h0 ▸ .sym i) (rel_range l (i + 1) fun j hj => ?_)
    have := h (j + 1) (by simpa using hj)
    rw [List.getElem?_cons_succ] at this
    rw [← this]
    congr 1; omega

theorem symArgs_rel {P : Program} {W : World} {base : Nat} {σ : Nat → Value} {φ : Ren} : ∀ {ts : List TypeId} {vs : List Value} {i : Nat}, ArgsOk P W base ts vs → (∀ j, j < (allCells vs).length → σ (i + j) = ((allCells vs)[j]?).getD (.bool false)) → RelL σ φ (symArgs P ts i) vs
  | [], [], i, _, _ => .nil
  | t :: ts, v :: vs, i, h, hσ => by
    have hv := h.1
    have hc : allCells (v :: vs) = v.cells.toList ++ allCells vs := by simp [allCells]
    rw [hc] at hσ
    have hfirst : ∀ j, j < v.cells.toList.length → σ (i + j) = (v.cells.toList[j]?).getD (.bool false) := fun j hj => by
      rw [hσ j (by simp; simp at hj; omega), List.getElem?_append_left (by simpa using hj)]
    have hrest : ∀ j, j < (allCells vs).length → σ (i + v.cells.toList.length + j) = ((allCells vs)[j]?).getD (.bool false) := fun j hj => by
      have := hσ (v.cells.toList.length + j) (by simp; omega)
      rw [List.getElem?_append_right (by omega)] at this
      rw [show i + v.cells.toList.length + j = i + (v.cells.toList.length + j) by omega, this]
      congr 2; omega
    unfold Value.okWide at hv
    unfold symArgs
    split at hv
    · rename_i fs hu
      obtain ⟨cs, rfl, hsz, _⟩ := hv
      rw [hu]
      have hlen : cs.toList.length = P.cellsOf t := by simpa using hsz
      have := rel_range (φ := φ) cs.toList i hfirst
      rw [hlen] at this
      refine .cons (.agg this) ?_
      have hr := symArgs_rel (φ := φ) h.2 hrest
      rw [show (Value.agg cs).cells.toList.length = P.cellsOf t from hlen] at hr
      exact hr
    · rename_i n e hu
      obtain ⟨cs, rfl, hsz, _⟩ := hv
      rw [hu]
      have hlen : cs.toList.length = P.cellsOf t := by simpa using hsz
      have := rel_range (φ := φ) cs.toList i hfirst
      rw [hlen] at this
      refine .cons (.agg this) ?_
      have hr := symArgs_rel (φ := φ) h.2 hrest
      rw [show (Value.agg cs).cells.toList.length = P.cellsOf t from hlen] at hr
      exact hr
    · rename_i h1 h2
      have hone := cell_one hv
      have hcs := cells_of_one hone
      rw [hcs] at hfirst hrest
      have h0 := hfirst 0 (by simp)
      simp only [Nat.add_zero, List.getElem?_cons_zero, Option.getD_some] at h0
      have hr := symArgs_rel (φ := φ) h.2 hrest
      cases hu : P.underlying t with
      | none => exact .cons (h0 ▸ .sym i) hr
      | some d =>
        cases d <;> first | exact absurd hu (h1 _) | exact absurd hu (h2 _ _) | exact .cons (h0 ▸ .sym i) hr
  | [], _ :: _, _, h, _ => h.elim
  | _ :: _, [], _, h, _ => h.elim

/-- A law that a run of the abstract machine shows. -/
theorem law_of_run {A : Checked} {os : Os} {f : FuncId} {fn : Func} {s : ChangeSpec} {H : Type} {enc : TypeId × Value → H} {apart fresh : Bool} {tb : TypeId} {T : Tab} {N : Nat}
    (own : ownKnob A.prog.godebug = none) (started : os.Started) (noInit : A.prog.inits.idxOf? f = none) (hfn : A.prog.funcs[f]? = some fn)
    (hl : laidOutB A.prog = true) (hts : (fn.params.toList.all fun t => A.prog.readableRec t && decide (t < A.prog.types.size)) = true) (hs : IsLaw s fn.params.toList.length) (hr : fn.resultTypes = #[tb]) (htb : A.prog.underlying tb = some .bool)
    (witness : ∃ (w : World) (tape : Tape) (i : Input), w.os = os ∧ (w.forCall tape i).Shaped A.prog ∧ i.vars = [] ∧ Input.okWide A.prog (w.forCall tape i) .any w.heap.size f i ∧
      s.pre6 enc A.prog fn [] apart (w.forCall tape i).memory i.args ∧ ({} : Assume).holds A.prog (lone (Frame.enter A.prog f i.args .normal) [] (w.forCall tape i)))
    (hN : NoCount A.prog) (hrun : saysTrue ((recN A.prog T N).call f (symArgs A.prog fn.params.toList 0) St.empty) = true)
    (hT : ∀ (W : World) (base : Nat) (vs : List Value) (h : ArgsOk A.prog W base fn.params.toList vs) (X : Nat → Prop), TabOK ((envAt (symEnv vs) (symEnv_one h) W).at X) A.prog T) :
    ReturnsInHanded {} A os f .any (s.pre6 enc A.prog fn [] apart) (s.post enc A.prog fn apart fresh false false) := by
  refine returnsInHanded_of_change (C := A) own started noInit hfn witness ?_
  intro W base args ds gs before hval hW _ _
  obtain ⟨l⟩ := args
  have hlen : l.length = fn.params.toList.length := by
    obtain ⟨p, q, hA, _⟩ := hW
    exact (trodAll_lengths hA).1
  have hok : ArgsOk A.prog W base fn.params.toList l := argsOk_of hlen fun j t v h1 h2 => hval j t v (by simpa using h1) (by simpa using h2)
  have := call_true hN hrun (symEnv l) (symEnv_one hok) W (hT W base l hok) (vs := l) (symArgs_rel hok fun j _ => by unfold symEnv; rw [Nat.zero_add])
  refine this.mono ?_
  rintro e W' ⟨rfl, hb⟩
  exact ⟨_, rfl, law_post hl hts hs hr htb hW hb⟩

/-- The same, where package-level variables are known. -/
theorem law_of_run_and {A : Checked} {os : Os} {f : FuncId} {fn : Func} {s : ChangeSpec} {H : Type} {enc : TypeId × Value → H} {apart fresh : Bool} {tb : TypeId} {T : Tab} {N : Nat} {Y : World → Array Value → Prop}
    (hY : ∀ (w w' : World) (args : Array Value), w.heap = w'.heap → Y w args → Y w' args)
    (own : ownKnob A.prog.godebug = none) (started : os.Started) (noInit : A.prog.inits.idxOf? f = none) (hfn : A.prog.funcs[f]? = some fn)
    (hl : laidOutB A.prog = true) (hts : (fn.params.toList.all fun t => A.prog.readableRec t && decide (t < A.prog.types.size)) = true) (hs : IsLaw s fn.params.toList.length) (hr : fn.resultTypes = #[tb]) (htb : A.prog.underlying tb = some .bool)
    (witness : ∃ (w : World) (tape : Tape) (i : Input), w.os = os ∧ (w.forCall tape i).Shaped A.prog ∧ i.vars = [] ∧ Input.okWide A.prog (w.forCall tape i) .any w.heap.size f i ∧
      ((s.pre enc A.prog fn [] apart (w.forCall tape i).memory i.args ∧ Y (w.forCall tape i).memory i.args) ∧ sizedMet enc A.prog fn (OpenSpec.ofChange s) apart (w.forCall tape i).memory i.args) ∧ ({} : Assume).holds A.prog (lone (Frame.enter A.prog f i.args .normal) [] (w.forCall tape i)))
    (hN : NoCount A.prog) (hrun : saysTrue ((recN A.prog T N).call f (symArgs A.prog fn.params.toList 0) St.empty) = true)
    (hT : ∀ (W : World) (base : Nat) (vs : List Value) (h : ArgsOk A.prog W base fn.params.toList vs) (X : Nat → Prop), Y W ⟨vs⟩ → TabOK ((envAt (symEnv vs) (symEnv_one h) W).at X) A.prog T) :
    ReturnsInHanded {} A os f .any (fun w args => (s.pre enc A.prog fn [] apart w args ∧ Y w args) ∧ sizedMet enc A.prog fn (OpenSpec.ofChange s) apart w args) (s.post enc A.prog fn apart fresh false false) := by
  refine returnsInHanded_of_change_and (C := A) (X := Y) hY own started noInit hfn witness ?_
  intro W base args ds gs before hval hW _ _ hL _
  obtain ⟨l⟩ := args
  have hlen : l.length = fn.params.toList.length := by
    obtain ⟨p, q, hA, _⟩ := hW
    exact (trodAll_lengths hA).1
  have hok : ArgsOk A.prog W base fn.params.toList l := argsOk_of hlen fun j t v h1 h2 => hval j t v (by simpa using h1) (by simpa using h2)
  have := call_true hN hrun (symEnv l) (symEnv_one hok) W (fun X => hT W base l hok X hL) (vs := l) (symArgs_rel hok fun j _ => by unfold symEnv; rw [Nat.zero_add])
  refine this.mono ?_
  rintro e W' ⟨rfl, hb⟩
  exact ⟨_, rfl, law_post hl hts hs hr htb hW hb⟩

end Go.Dm
