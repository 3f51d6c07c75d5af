import Derived.Test.YtbnkomlknlpmmaaGreatDoorDmE6
/-
  The abstract machine: maps, and all that changes memory.
-/
namespace Go.Dm
open Go.RowKit
variable {E : Env} {φ : Ren} {P : Program} {s : St} {w : World}

def DObj.isCells : DObj → Bool
  | .cells .. => true
  | _ => false

theorem ORel.notCells {o : DObj} {L : Loc} (h : ORel E φ o L w) (hl : o.live = true) (hc : o.isCells = false) : ∀ cs e fz, w.heap[L.B]? ≠ some (.cells cs e fz) := by
  intro cs e fz hb
  cases o with
  | cells pm n f => simp [DObj.isCells] at hc
  | dead f => simp [DObj.live] at hl
  | map es clock => obtain ⟨fs, h1, _⟩ := h; rw [h1] at hb; simp at hb
  | siter s pos => rw [show w.heap[L.B]? = _ from h] at hb; simp at hb
  | defd => rw [show w.heap[L.B]? = _ from h] at hb; simp at hb
  | loop Lp => obtain ⟨M, h1, _⟩ := h; rw [h1] at hb; simp at hb

theorem famOf_notCells {b : Nat} {o : DObj} (hl : o.live = true) (hc : o.isCells = false) : famOf b o = b := by
  cases o <;> simp_all [DObj.live, DObj.isCells, famOf]

/-- Where something lies that is no row of cells, no other live block lies. -/
theorem WRel.uniq (h : WRel E φ s w) {b : Nat} {o : DObj} {L : Loc} (hb : s.heap.get b = some o) (hφ : φ b = some L) (hl : o.live = true) (hc : o.isCells = false) :
    ∀ b' o' l', s.heap.get b' = some o' → o'.live = true → φ b' = some l' → l'.B = L.B → b' = b := by
  intro b' o' l' hb' hl' hφ' hB
  have e1 := h.inj _ _ _ _ hφ' hφ hB
  rw [h.fam _ _ _ hb' hφ', h.fam _ _ _ hb hφ, famOf_notCells hl hc] at e1
  have hno := (h.obj _ _ _ hb hφ).notCells hl hc
  cases hc' : o'.isCells with
  | false => rw [famOf_notCells hl' hc'] at e1; exact e1
  | true =>
    cases o' with
    | cells pm n f =>
      obtain ⟨cs, e, fz, k1, _⟩ := h.obj _ _ _ hb' hφ'
      rw [hB] at k1
      exact absurd k1 (hno cs e fz)
    | _ => simp [DObj.isCells] at hc'

/-- Something that is no row of cells is put in another's place. -/
theorem setObj_sound (h : WRel E φ s w) {b : Nat} {o0 o1 : DObj} {L : Loc} (hb : s.heap.get b = some o0) (hφ : φ b = some L) (hl : o0.live = true) (hc : o0.isCells = false) (hfam : famOf b o1 = b) (obj : Obj)
    (ho : ∀ w', w'.heap[L.B]? = some obj → ORel E φ o1 L w') : ∃ w', (setObj L.B obj).run P w = .ok () w' ∧ WRel E φ { s with heap := s.heap.set b o1 } w' := by
  have hB := (h.lt _ _ hφ).2.1
  have hno := (h.obj _ _ _ hb hφ).notCells hl hc
  obtain ⟨x, hx⟩ : ∃ x, w.heap[L.B]? = some x := ⟨_, Array.getElem?_eq_getElem hB⟩
  refine ⟨{ w with heap := w.heap.setIfInBounds L.B obj }, ?_, ?_⟩
  · cases x with
    | cells cs e fz => exact absurd hx (hno cs e fz)
    | _ => simp [setObj, Sem.run, hx]
  · refine h.change hb hφ hl (by rw [hfam, famOf_notCells hl hc]) (h.uniq hb hφ hl hc) (by simp) (fun k hk => ?_) rfl rfl rfl (ho _ ?_)
    · simp only [Array.getElem?_setIfInBounds]
      rw [if_neg (by omega)]
    · simp [hB]

theorem MRel.modAt {k : Value} {x : DV} {xv : Value} (hx : Rel E.σ φ x xv) : ∀ {es : List (Value × DV × Nat)} {fs : List MapEntry} (i : Nat), MRel E φ es fs → MRel E φ (Dm.modAt es i fun (_, _, n) => (k, x, n)) (fs.modify i fun e => { e with key := k, val := xv })
  | _, _, i, .nil => by cases i <;> exact .nil
  | _, _, 0, .cons h r => by simpa [Dm.modAt] using MRel.cons hx r
  | _, _, i + 1, .cons h r => by simpa [Dm.modAt] using MRel.cons h (MRel.modAt hx i r)

theorem MRel.append {es es' : List (Value × DV × Nat)} {fs fs' : List MapEntry} (h : MRel E φ es fs) (k : MRel E φ es' fs') : MRel E φ (es ++ es') (fs ++ fs') := by
  induction h with
  | nil => exact k
  | cons hd _ ih => exact .cons hd ih

theorem MRel.eraseIdx : ∀ {es : List (Value × DV × Nat)} {fs : List MapEntry} (i : Nat), MRel E φ es fs → MRel E φ (es.eraseIdx i) (fs.eraseIdx i)
  | _, _, i, .nil => by simpa using MRel.nil
  | _, _, 0, .cons h r => by simpa using r
  | _, _, i + 1, .cons h r => by simpa using MRel.cons h (MRel.eraseIdx i r)

theorem stays {kind : TypeDesc} {k k' : Value} (h : Instr.sameNow kind k k' = some true) (w : World) : (Instr.keyThatStays k' k).run P w = .ok k w := by
  unfold Instr.sameNow at h
  split at h
  · rename_i a b c d e
    split at h
    · rename_i e1
      simp only [Option.some.injEq, beq_iff_eq] at h
      subst e1 h
      simp [Instr.keyThatStays, Instr.sameBits]
    · simp at h
  · rename_i a b
    simp only [Option.some.injEq] at h
    obtain ⟨a⟩ := a; obtain ⟨b⟩ := b
    have h' : (a == b) = true := h
    have h'' : a = b := by simpa using h'
    subst h''
    have hs : Instr.sameBits 10000 (.string ⟨a⟩) (.string ⟨a⟩) = true := h
    simp only [Instr.keyThatStays, hs, if_true]
    rfl
  · rename_i a b
    simp only [Option.some.injEq, beq_iff_eq] at h
    subst h
    simp [Instr.keyThatStays, Instr.sameBits]
  · simp at h

theorem mapUpdateD_sound (h : WRel E φ s w) {t : TypeId} {m k x : DV} {mv kv xv : Value} {s' : St} (hm : Rel E.σ φ m mv) (hk : Rel E.σ φ k kv) (hx : Rel E.σ φ x xv) (hs : mapUpdateD P t m k x s = some s') :
    ∃ w', (Instr.mapUpdate t mv kv xv).run P w = .ok () w' ∧ WRel E φ s' w' := by
  unfold mapUpdateD at hs
  split at hs
  · rename_i kt et b key hu hkv
    have := hk.toV_eq hkv
    subst this
    cases hm with | map hφ =>
    rename_i L
    simp only [Option.bind_eq_some_iff] at hs
    obtain ⟨kind, hkind, hs⟩ := hs
    split at hs
    · rename_i es clock ho
      simp only [Option.bind_eq_some_iff] at hs
      obtain ⟨r, hr, hs⟩ := hs
      obtain ⟨fs, h1, h2⟩ := h.obj _ _ _ ho hφ
      obtain ⟨r', hf, hmm⟩ := find_sound h2 hr
      have hget : (getObj L.B).run P w = .ok (.map fs clock) w := by simp [getObj, Sem.run, h1]
      cases r with
      | none =>
        cases r' with
        | some _ => exact hmm.elim
        | none =>
          simp only [Option.some.injEq] at hs
          subst hs
          obtain ⟨w', k1, k2⟩ := setObj_sound (P := P) (o1 := .map (es ++ [(kv, x, clock)]) (clock + 1)) h ho hφ rfl rfl rfl (.map (fs.push { key := kv, val := xv, born := clock }) (clock + 1)) (fun w' hw' => ⟨_, hw', by
            simpa using h2.append (.cons (k := kv) (n := clock) hx .nil)⟩)
          refine ⟨w', ?_, k2⟩
          simp only [Instr.mapUpdate, Sem.run_bind, run_und hu, Result.andThen_ok, hget, checkKey_plain hkind, findKey_run hkind hf, k1]
      | some p =>
        cases r' with
        | none => exact hmm.elim
        | some q =>
          obtain ⟨j, d'⟩ := p; obtain ⟨j', v'⟩ := q
          obtain ⟨rfl, _, _, e, he, hsame⟩ := hmm
          simp only [Option.some.injEq] at hs
          subst hs
          simp only [Nat.sub_zero, Array.getElem?_toList] at he
          obtain ⟨w', k1, k2⟩ := setObj_sound (P := P) (o1 := .map (modAt es j fun (_, _, n) => (kv, x, n)) clock) h ho hφ rfl rfl rfl (.map (fs.modify j fun e => { e with key := kv, val := xv }) clock) (fun w' hw' => ⟨_, hw', by
            have := MRel.modAt (k := kv) hx j h2
            simpa [Array.toList_modify] using this⟩)
          refine ⟨w', ?_, k2⟩
          simp only [Instr.mapUpdate, Sem.run_bind, run_und hu, Result.andThen_ok, hget, checkKey_plain hkind, findKey_run hkind hf, he, Option.map_some, Option.getD_some, stays hsame, k1]
    · simp at hs
  · simp at hs

theorem deleteD_sound (h : WRel E φ s w) {t ty : TypeId} {ts : Array TypeId} {m k : DV} {mv kv : Value} {s' : St} (hts : ts[0]? = some t) (hm : Rel E.σ φ m mv) (hk : Rel E.σ φ k kv) (hs : deleteD P t m k s = some s') :
    ∃ w', (Builtin.delete_ ts ty #[mv, kv]).run P w = .ok undef w' ∧ WRel E φ s' w' := by
  unfold deleteD at hs
  split at hs
  · rename_i kt et b key hu hkv
    have := hk.toV_eq hkv
    subst this
    cases hm with | map hφ =>
    rename_i L
    simp only [Option.bind_eq_some_iff] at hs
    obtain ⟨kind, hkind, hs⟩ := hs
    split at hs
    · rename_i es clock ho
      simp only [Option.bind_eq_some_iff] at hs
      obtain ⟨r, hr, hs⟩ := hs
      obtain ⟨fs, h1, h2⟩ := h.obj _ _ _ ho hφ
      obtain ⟨r', hf, hmm⟩ := find_sound h2 hr
      have hget : (getObj L.B).run P w = .ok (.map fs clock) w := by simp [getObj, Sem.run, h1]
      cases r with
      | none =>
        cases r' with
        | some _ => exact hmm.elim
        | none =>
          simp only [Option.some.injEq] at hs
          subst hs
          obtain ⟨w', k1, k2⟩ := setObj_sound (P := P) (o1 := .map es clock) h ho hφ rfl rfl rfl (.map fs clock) (fun w' hw' => ⟨_, hw', h2⟩)
          refine ⟨w', ?_, ?_⟩
          · simp only [Builtin.delete_, hts, List.getElem?_toArray, List.getElem?_cons_zero, List.getElem?_cons_succ, Sem.run_bind, run_und hu, Result.andThen_ok, hget, checkKey_plain hkind, findKey_run hkind hf, k1]
            rfl
          · -- the state is as it was
            refine ⟨k2.lt, k2.inj, fun b' o' l hb' hl => h.fam _ _ _ hb' hl, fun b' o' l hb' hl => ?_, h.live, h.hlt, h.flt, h.mem, k2.below, h.ban⟩
            by_cases e : b' = b
            · subst e
              have ho' : s.heap.get b' = some (.map es clock) := ho
              rw [ho'] at hb'
              obtain rfl := Option.some.inj hb'
              exact k2.obj b' _ l (PM.get_set_self _ _ _) hl
            · exact k2.obj b' o' l (by rw [PM.get_set_ne _ _ e]; exact hb') hl
      | some p =>
        cases r' with
        | none => exact hmm.elim
        | some q =>
          obtain ⟨j, d'⟩ := p; obtain ⟨j', v'⟩ := q
          obtain ⟨rfl, _, _, e, he, hsame⟩ := hmm
          simp only [Option.some.injEq] at hs
          subst hs
          obtain ⟨w', k1, k2⟩ := setObj_sound (P := P) (o1 := .map (es.eraseIdx j) clock) h ho hφ rfl rfl rfl (.map (fs.eraseIdxIfInBounds j) clock) (fun w' hw' => ⟨_, hw', by
            have := MRel.eraseIdx j h2
            simpa using this⟩)
          refine ⟨w', ?_, k2⟩
          simp only [Builtin.delete_, hts, List.getElem?_toArray, List.getElem?_cons_zero, List.getElem?_cons_succ, Sem.run_bind, run_und hu, Result.andThen_ok, hget, checkKey_plain hkind, findKey_run hkind hf, k1]
          rfl
    · simp at hs
  · simp at hs

/-- What an operation that changes memory comes to: a value, or nothing. -/
def EffRes (E : Env) (P : Program) (o : Oper) (ρ' : Operand → Value) (ψ : Ren) (w w' : World) : Option DV → Prop
  | some d => ∃ x, (execOp ρ' o).run P w = .ok (.value x) w' ∧ Rel E.σ ψ d x
  | none => (execOp ρ' o).run P w = .ok .skip w'

/-- An operation that changes memory: a value, or nothing, and the memory behind it. -/
theorem effOp_sound (h : WRel E φ s w) {o : Oper} {ρ : Operand → DV} {ρ' : Operand → Value} {v : Option DV} {s' : St} (hρ : ∀ x, Rel E.σ φ (ρ x) (ρ' x)) (hs : effOp P o.op ρ s = some (v, s')) :
    ∃ w' ψ, φ.le ψ ∧ WRel E ψ s' w' ∧ EffRes E P o ρ' ψ w w' v := by
  obtain ⟨dst, op, type, pos, after, guard⟩ := o
  simp only at hs
  unfold effOp at hs
  split at hs
  · -- alloc
    rename_i t
    simp only [Option.bind_eq_some_iff, Option.map_eq_some_iff, Prod.mk.injEq, Prod.exists] at hs
    obtain ⟨z, hz, d, s1, hb, rfl, rfl⟩ := hs
    obtain ⟨zv, hzv, hzr⟩ := zeroCells_rel (E := E) (φ := φ) hz
    obtain ⟨y, w', ψ, k1, k2, k3, k4⟩ := boxD_sound (P := P) (t := t) (xv := .agg zv.cells) h (.agg hzr) hb
    refine ⟨w', ψ, k2, k3, .pointer (some y), ?_, k4⟩
    have hnv : (newVar t zv).run P w = .ok y w' := k1
    simp [execOp, Instr.alloc, run_zeroOf hzv, hnv]
  · -- box
    rename_i t x
    simp only [Option.map_eq_some_iff, Prod.mk.injEq, Prod.exists] at hs
    obtain ⟨d, s1, hb, rfl, rfl⟩ := hs
    obtain ⟨y, w', ψ, k1, k2, k3, k4⟩ := boxD_sound (P := P) (t := t) h (hρ x) hb
    exact ⟨w', ψ, k2, k3, .pointer (some y), by simp [execOp, Instr.box, k1], k4⟩
  · rename_i t n parts
    simp only [Option.map_eq_some_iff, Prod.mk.injEq, Prod.exists] at hs
    obtain ⟨d, s1, hb, rfl, rfl⟩ := hs
    obtain ⟨y, w', ψ, k1, k2, k3, k4⟩ := buildSliceD_sound (P := P) (qs := parts.map fun (i, x) => (i, ρ' x)) h (by simpa using PartsRel.map hρ parts.toList) hb
    exact ⟨w', ψ, k2, k3, y, v_run k1, k4⟩
  · rename_i t l c
    simp only [Option.map_eq_some_iff, Prod.mk.injEq, Prod.exists] at hs
    obtain ⟨d, s1, hb, rfl, rfl⟩ := hs
    obtain ⟨y, w', ψ, k1, k2, k3, k4⟩ := makeSliceD_sound (P := P) h (hρ l) (hρ c) hb
    exact ⟨w', ψ, k2, k3, y, v_run k1, k4⟩
  · -- a map
    rename_i t
    split at hs
    · rename_i du hu
      simp only [Option.some.injEq, Prod.mk.injEq] at hs
      obtain ⟨rfl, rfl⟩ := hs
      obtain ⟨g1, g2, g3⟩ := h.new (mk := fun _ => .map [] 0) (obj := .map #[] 0) (N := 0) rfl ⟨#[], by show (w.heap.push _)[w.heap.size]? = _; simp, .nil⟩
      refine ⟨_, _, g2, g1, .map (some w.heap.size), ?_, ?_⟩
      · simp [execOp, Instr.makeMap]
      · rw [g3]; exact .map (l := ⟨w.heap.size, 0, 0, s.next⟩) (Ren.upd_self _ _ _)
    · simp at hs
  · rename_i src dst' x
    cases hb : isString P src && isBytes P dst' with
    | false => rw [hb] at hs; simp at hs
    | true =>
      rw [hb] at hs
      simp only [cond_true, Option.map_eq_some_iff, Prod.mk.injEq, Prod.exists] at hs
      obtain ⟨d, s1, hb1, rfl, rfl⟩ := hs
      simp only [Bool.and_eq_true] at hb
      have h1 := isString_und hb.1
      obtain ⟨e, h2, h3⟩ := isBytes_und hb.2
      obtain ⟨bs, hbs, y, w', ψ, k1, k2, k3, k4⟩ := stringToBytesD_sound (P := P) (e := e) h (hρ x) hb1
      refine ⟨w', ψ, k2, k3, y, v_run ?_, k4⟩
      rw [hbs]
      simp only [Go.convert, Sem.run_bind, run_und h1, run_und h2, Result.andThen_ok, run_und h3, k1]
  · rename_i t a x
    simp only [Option.map_eq_some_iff, Prod.mk.injEq] at hs
    obtain ⟨s1, hb, rfl, rfl⟩ := hs
    obtain ⟨w', k1, k2⟩ := storeD_sound (P := P) h (hρ a) (hρ x) hb
    exact ⟨w', φ, φ.le_refl, k2, by simp [EffRes, execOp, k1]⟩
  · rename_i t m k x
    simp only [Option.map_eq_some_iff, Prod.mk.injEq] at hs
    obtain ⟨s1, hb, rfl, rfl⟩ := hs
    obtain ⟨w', k1, k2⟩ := mapUpdateD_sound (P := P) h (hρ m) (hρ k) (hρ x) hb
    exact ⟨w', φ, φ.le_refl, k2, by simp [EffRes, execOp, k1]⟩
  · rename_i args argTypes
    split at hs
    · rename_i x y ha
      simp only [Option.map_eq_some_iff, Prod.mk.injEq, Prod.exists] at hs
      obtain ⟨d, s1, hb, rfl, rfl⟩ := hs
      have ha' : args = #[x, y] := by apply Array.ext'; simpa using ha
      obtain ⟨t, u, htu⟩ : ∃ t u, argTypes.toList = [t, u] := by
        unfold appendD at hb
        split at hb
        · rename_i t u e; exact ⟨t, u, e⟩
        · simp at hb
      have ht' : argTypes = #[t, u] := by apply Array.ext'; simpa using htu
      subst ha' ht'
      obtain ⟨y', w', ψ, k1, k2, k3, k4⟩ := appendD_sound (P := P) (ty := type) h (hρ x) (hρ y) hb
      exact ⟨w', ψ, k2, k3, y', by simp [execOp, resolve, invoke, builtin, k1], k4⟩
    · simp at hs
  · rename_i args argTypes
    split at hs
    · rename_i x y ha
      simp only [Option.map_eq_some_iff, Prod.mk.injEq, Prod.exists] at hs
      obtain ⟨d, s1, hb, rfl, rfl⟩ := hs
      have ha' : args = #[x, y] := by apply Array.ext'; simpa using ha
      subst ha'
      obtain ⟨t, u, htu⟩ : ∃ t u, argTypes.toList = t :: u := by
        unfold copyD at hb
        split at hb
        · rename_i t u e; exact ⟨t, u, e⟩
        · simp at hb
      have ht' : argTypes[0]? = some t := by rw [← Array.getElem?_toList, htu]; rfl
      rw [htu] at hb
      obtain ⟨y', w', ψ, k1, k2, k3, k4⟩ := copyD_sound (P := P) (u := t) (ty := type) h (hρ x) (hρ y) (show copyD P [t, t] (ρ x) (ρ y) s = some (d, s1) from hb)
      refine ⟨w', ψ, k2, k3, y', ?_, k4⟩
      have e : Builtin.copy_ argTypes type #[ρ' x, ρ' y] = Builtin.copy_ #[t, t] type #[ρ' x, ρ' y] := by
        simp only [Builtin.copy_, ht']
        rfl
      simp [execOp, resolve, invoke, builtin, e, k1]
    · simp at hs
  · rename_i args argTypes
    split at hs
    · rename_i m k t ts ha ht
      simp only [Option.map_eq_some_iff, Prod.mk.injEq] at hs
      obtain ⟨s1, hb, rfl, rfl⟩ := hs
      have ha' : args = #[m, k] := by apply Array.ext'; simpa using ha
      have ht' : argTypes[0]? = some t := by rw [← Array.getElem?_toList, ht]; rfl
      subst ha'
      obtain ⟨w', k1, k2⟩ := deleteD_sound (P := P) (ty := type) h ht' (hρ m) (hρ k) hb
      exact ⟨w', φ, φ.le_refl, k2, undef, by simp [execOp, resolve, invoke, builtin, k1], .c _⟩
    · simp at hs
  · simp at hs

end Go.Dm
