import Derived.Test.YtbnkomlknlpmmaaGreatDoorDmC4
import Derived.Laws.BytesString
import Derived.Laws.Cells
/-
  The abstract machine: operations that read memory.
-/
namespace Go.Dm
open Go.RowKit
variable {E : Env} {φ : Ren} {P : Program} {s : St} {w : World}

theorem CellsAt.cell {L : Loc} {pm : PM DV} {n : Nat} (h : CellsAt E φ L w pm n) {i : Nat} (hi : i < n) :
    ∃ d x, pm.get i = some d ∧ w.cell? ⟨L.B, L.D + i, none⟩ = some x ∧ Rel E.σ φ d x ∧ w.frozen? ⟨L.B, L.D + i, none⟩ = false := by
  obtain ⟨cs, e, fz, hb, hn, hf, hd, hc⟩ := h
  obtain ⟨d, x, h1, h2, h3⟩ := hc i hi
  refine ⟨d, x, h1, by simp [World.cell?, hb, h2], h3, ?_⟩
  obtain ⟨lo, hi'⟩ := fz
  simp only [World.frozen?, hb]
  simp only at hf
  rcases hf with hf | hf
  · rw [Bool.and_eq_false_iff]
    by_cases g : lo ≤ L.D + i
    · right; simp; omega
    · left; simp; omega
  · rw [Bool.and_eq_false_iff]; left; simp; omega

theorem WRel.cells (h : WRel E φ s w) {b n f : Nat} {pm : PM DV} {L : Loc} (ho : s.obj b = some (.cells pm n f)) (hφ : φ b = some L) : CellsAt E φ L w pm n := h.obj b _ L ho hφ

theorem row_sound (h : WRel E φ s w) {b o n : Nat} {l : List DV} {L : Loc} (hφ : φ b = some L) (hr : s.row b o n = some l) :
    ∃ vs : List Value, vs.length = n ∧ RelL E.σ φ l vs ∧ (∀ j v, vs[j]? = some v → w.cell? ((⟨L.B, L.D + o, none⟩ : Addr).add j) = some v) ∧ (loadCells ⟨L.B, L.D + o, none⟩ n).run P w = .ok ⟨vs⟩ w := by
  unfold St.row at hr
  split at hr
  · rename_i pm m f ho
    cases hb : Nat.ble (o + n) m with
    | false => rw [hb] at hr; simp at hr
    | true =>
      rw [hb] at hr; simp only [cond_true] at hr
      have hle := Nat.le_of_ble_eq_true hb
      have hc := h.cells ho hφ
      have hlen := PM.toL_length hr
      let vs : List Value := (List.range n).map fun j => (w.cell? ⟨L.B, L.D + (o + j), none⟩).getD undef
      have hvl : vs.length = n := by simp [vs]
      have hvg : ∀ j, j < n → ∃ d x, l[j]? = some d ∧ vs[j]? = some x ∧ w.cell? ⟨L.B, L.D + (o + j), none⟩ = some x ∧ Rel E.σ φ d x := by
        intro j hj
        obtain ⟨d, x, h1, h2, h3, _⟩ := hc.cell (i := o + j) (by omega)
        refine ⟨d, x, by rw [← PM.toL_get hr j hj]; exact h1, ?_, h2, h3⟩
        simp [vs, hj, h2]
      have hcell : ∀ j v, vs[j]? = some v → w.cell? ((⟨L.B, L.D + o, none⟩ : Addr).add j) = some v := by
        intro j v hv
        have hj : j < n := by have := (List.getElem?_eq_some_iff.1 hv).1; omega
        obtain ⟨d, x, _, h2, h3, _⟩ := hvg j hj
        rw [h2] at hv
        obtain rfl := Option.some.inj hv
        rw [add_addr, Nat.add_assoc]; exact h3
      refine ⟨vs, hvl, RelL.of_get (by omega) fun j x y hx hy => ?_, hcell, ?_⟩
      · have hj : j < n := by have := (List.getElem?_eq_some_iff.1 hy).1; omega
        obtain ⟨d, z, h1, h2, _, h4⟩ := hvg j hj
        rw [h1] at hx; rw [h2] at hy
        obtain rfl := Option.some.inj hx
        obtain rfl := Option.some.inj hy
        exact h4
      · have := run_loadCells_list (P := P) w ⟨L.B, L.D + o, none⟩ vs hcell
        rw [hvl] at this
        simpa using this
  · simp at hr

theorem loadD_sound (h : WRel E φ s w) {t : TypeId} {x d : DV} {v : Value} (hx : Rel E.σ φ x v) (hl : loadD P t x s = some d) : ∃ y, (Instr.loadAt t v).run P w = .ok y w ∧ Rel E.σ φ d y := by
  unfold loadD at hl
  split at hl
  · rename_i b o ha
    cases hx with | ptr hφ =>
    simp only [Option.bind_eq_some_iff, Option.map_eq_some_iff] at hl
    obtain ⟨n, hn, l, hr, rfl⟩ := hl
    obtain ⟨vs, hv, hrel, _, hrun⟩ := row_sound (P := P) h hφ hr
    refine ⟨.agg ⟨vs⟩, ?_, .agg hrel⟩
    simp only [Instr.loadAt, Instr.sureAddr, Sem.run_bind, Sem.run_pure, Result.andThen_ok, loadVar, run_aggOf ha, if_true, run_szOf hn, hrun]
  · rename_i b o ha
    cases hx with | ptr hφ =>
    split at hl
    · rename_i pm m f ho
      cases hb : Nat.blt o m with
      | false => rw [hb] at hl; simp at hl
      | true =>
        rw [hb] at hl; simp only [cond_true] at hl
        obtain ⟨d', y, h1, h2, h3, _⟩ := (h.cells ho hφ).cell (i := o) (by simpa [Nat.blt_eq] using hb)
        rw [h1] at hl
        obtain rfl := Option.some.inj hl
        refine ⟨y, ?_, h3⟩
        simp [Instr.loadAt, Instr.sureAddr, loadVar, run_aggOf ha, h2]
    · simp at hl
  · simp at hl

theorem MRel.length : ∀ {es : List (Value × DV × Nat)} {fs : List MapEntry}, MRel E φ es fs → es.length = fs.length
  | _, _, .nil => rfl
  | _, _, .cons _ r => by simp [MRel.length r]

theorem MRel.mono {ψ : Ren} (hle : φ.le ψ) : ∀ {es : List (Value × DV × Nat)} {fs : List MapEntry}, MRel E φ es fs → MRel E ψ es fs
  | _, _, .nil => .nil
  | _, _, .cons h r => .cons (h.mono hle) (MRel.mono hle r)

/-- What was found, and where. -/
def FRel (E : Env) (φ : Ren) (kind : TypeDesc) (k : Value) (fs : List MapEntry) (i : Nat) : Option (Nat × DV) → Option (Nat × Value) → Prop
  | none, none => True
  | some (j, d), some (j', v) => j = j' ∧ i ≤ j ∧ Rel E.σ φ d v ∧ ∃ e, fs[j - i]? = some e ∧ (Instr.sameNow kind k e.key) = some true
  | _, _ => False

theorem find_sound {kind : TypeDesc} {k : Value} : ∀ {es : List (Value × DV × Nat)} {fs : List MapEntry} {i : Nat} {r : Option (Nat × DV)}, MRel E φ es fs → findD kind k es i = some r →
    ∃ r', Instr.findNow kind k fs i = some r' ∧ FRel E φ kind k fs i r r'
  | _, _, i, r, .nil, h => by
    simp only [findD, Option.some.injEq] at h; subst h
    exact ⟨none, rfl, trivial⟩
  | _, _, i, r, .cons (k := k') (d := d) (n := n) (v := v) (fs := fs) hd hr, h => by
    unfold findD at h
    unfold Instr.findNow
    cases hs : Instr.sameNow kind k k' with
    | none => rw [hs] at h; simp at h
    | some q =>
      cases q with
      | true =>
        rw [hs] at h
        simp only [Option.some.injEq] at h; subst h
        exact ⟨some (i, v), rfl, rfl, Nat.le_refl _, hd, ⟨k', v, n⟩, by simp, hs⟩
      | false =>
        rw [hs] at h
        simp only at h
        obtain ⟨r', h1, h2⟩ := find_sound hr h
        refine ⟨r', h1, ?_⟩
        cases r with
        | none => cases r' with
          | none => trivial
          | some q => exact h2.elim
        | some p => cases r' with
          | none => exact h2.elim
          | some q =>
            obtain ⟨j, d'⟩ := p; obtain ⟨j', v'⟩ := q
            obtain ⟨rfl, h3, h4, e, h5, h6⟩ := h2
            refine ⟨rfl, by omega, h4, e, ?_, h6⟩
            rw [show j - i = (j - (i + 1)) + 1 by omega, List.getElem?_cons_succ]; exact h5

theorem plainKey_und {kt : TypeId} {kind : TypeDesc} (h : plainKey P kt = some kind) : P.underlying kt = some kind ∧ ((∃ i, kind = .int i) ∨ kind = .string ∨ kind = .bool) := by
  unfold plainKey at h
  split at h <;> simp only [Option.some.injEq, reduceCtorEq] at h
  · rename_i i hu; subst h; exact ⟨hu, .inl ⟨i, rfl⟩⟩
  · rename_i hu; subst h; exact ⟨hu, .inr (.inl rfl)⟩
  · rename_i hu; subst h; exact ⟨hu, .inr (.inr rfl)⟩

theorem checkKey_plain {kt : TypeId} {kind : TypeDesc} (h : plainKey P kt = some kind) (em : Bool) (n : Nat) (v : Value) (w : World) : (Instr.checkKey em (n + 1) kt v).run P w = .ok () w := by
  obtain ⟨hu, hk⟩ := plainKey_und h
  simp only [Instr.checkKey, Sem.run_bind, run_und hu, Result.andThen_ok]
  rcases hk with ⟨i, rfl⟩ | rfl | rfl <;> rfl

theorem findKey_run {kt : TypeId} {kind : TypeDesc} (h : plainKey P kt = some kind) {k : Value} {fs : List MapEntry} {r : Option (Nat × Value)} (hf : Instr.findNow kind k fs 0 = some r) (w : World) : (Instr.findKey kt k fs).run P w = .ok r w := by
  obtain ⟨hu, _⟩ := plainKey_und h
  simp [Instr.findKey, run_und hu, hf]

theorem mapEs_sound (h : WRel E φ s w) {m : DV} {v : Value} {es : List (Value × DV × Nat)} (hm : Rel E.σ φ m v) (hs : mapEsD m s = some es) :
    (v = .map none ∧ es = []) ∨ ∃ B clock, ∃ fs : Array MapEntry, v = .map (some B) ∧ w.heap[B]? = some (.map fs clock) ∧ MRel E φ es fs.toList := by
  unfold mapEsD at hs
  split at hs
  · cases hm; simp only [Option.some.injEq] at hs; exact .inl ⟨rfl, hs.symm⟩
  · cases hm with | map hφ =>
    split at hs
    · rename_i es' clock ho
      simp only [Option.some.injEq] at hs; subst hs
      obtain ⟨fs, h1, h2⟩ := h.obj _ _ _ ho hφ
      exact .inr ⟨_, _, fs, rfl, h1, h2⟩
    · simp at hs
  · simp at hs

theorem lookupD_sound (h : WRel E φ s w) {t : TypeId} {m k d : DV} {v kv : Value} {ok : Bool} (hm : Rel E.σ φ m v) (hk : Rel E.σ φ k kv) (hl : lookupD P t m k ok s = some d) :
    ∃ y, (Instr.lookup t v kv ok).run P w = .ok y w ∧ Rel E.σ φ d y := by
  unfold lookupD at hl
  split at hl
  · rename_i kt et key hu hkv
    have := hk.toV_eq hkv
    subst this
    simp only [Option.bind_eq_some_iff, Option.map_eq_some_iff, Prod.exists] at hl
    obtain ⟨kind, hkind, es, hes, r, hr, dv, is, hdv, rfl⟩ := hl
    have hfind : ∃ (fs : List MapEntry) (r' : Option (Nat × Value)), FRel E φ kind kv fs 0 r r' ∧
        (Instr.lookup t v kv ok).run P w = ((match r' with | some (_, v) => pure (v, true) | none => (do pure (← zeroValue et, false)) : Sem (Value × Bool)).run P w).andThen fun x w' => .ok (if ok then .tuple #[x.1, .bool x.2] else x.1) w' := by
      rcases mapEs_sound h hm hes with ⟨rfl, rfl⟩ | ⟨B, clock, fs, rfl, hb, hrel⟩
      · obtain ⟨r', hf, hmm⟩ := find_sound (E := E) (φ := φ) .nil hr
        refine ⟨_, r', hmm, ?_⟩
        simp only [Instr.lookup, Sem.run_bind, run_und hu, Result.andThen_ok, Sem.run_pure, checkKey_plain hkind, findKey_run (fs := (#[] : Array MapEntry).toList) hkind hf]
        cases r' with
        | none => simp only [Sem.run_bind, Sem.run_pure]; cases (zeroValue et).run P w <;> rfl
        | some q => rfl
      · obtain ⟨r', hf, hmm⟩ := find_sound hrel hr
        refine ⟨_, r', hmm, ?_⟩
        have hget : (getObj B).run P w = .ok (.map fs clock) w := by simp [getObj, Sem.run, hb]
        simp only [Instr.lookup, Sem.run_bind, run_und hu, Result.andThen_ok, hget, Sem.run_pure, checkKey_plain hkind, findKey_run hkind hf]
        cases r' with
        | none => simp only [Sem.run_bind, Sem.run_pure]; cases (zeroValue et).run P w <;> rfl
        | some q => rfl
    obtain ⟨fs, r', hmm, hrun⟩ := hfind
    rw [hrun]
    cases r with
    | none => cases r' with
      | some _ => exact hmm.elim
      | none =>
        simp only [Option.map_eq_some_iff, Prod.mk.injEq] at hdv
        obtain ⟨z, hz, rfl, rfl⟩ := hdv
        refine ⟨if ok then .tuple #[z, .bool false] else z, by simp [run_zeroOf hz], ?_⟩
        cases ok
        · exact .c _
        · exact .tup (.cons (.c _) (.cons (.c _) .nil))
    | some p => cases r' with
      | none => exact hmm.elim
      | some q =>
        obtain ⟨j, d'⟩ := p; obtain ⟨j', v'⟩ := q
        simp only [Option.some.injEq, Prod.mk.injEq] at hdv
        obtain ⟨rfl, rfl⟩ := hdv
        refine ⟨if ok then .tuple #[v', .bool true] else v', by simp, ?_⟩
        cases ok
        · exact hmm.2.2.1
        · exact .tup (.cons hmm.2.2.1 (.cons (.c _) .nil))
  · simp at hl

end Go.Dm
