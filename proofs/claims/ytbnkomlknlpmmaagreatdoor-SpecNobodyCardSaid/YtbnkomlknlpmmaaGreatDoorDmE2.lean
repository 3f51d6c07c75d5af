import Derived.Test.YtbnkomlknlpmmaaGreatDoorDmE
/-
  The abstract machine: what changes memory, the second part: stores, boxes, slices made.
-/
namespace Go.Dm
open Go.RowKit
variable {E : Env} {φ : Ren} {P : Program} {s : St} {w : World}

/-- One block is changed, in both memories, and no other abstract block lies where it lies. -/
theorem WRel.change (h : WRel E φ s w) {b : Nat} {o0 o1 : DObj} {L : Loc} (hb : s.heap.get b = some o0) (hφ : φ b = some L) (hl0 : o0.live = true) (hfam : famOf b o1 = famOf b o0)
    (uniq : ∀ b' o l', s.heap.get b' = some o → o.live = true → φ b' = some l' → l'.B = L.B → b' = b) {w' : World} (hsz : w'.heap.size = w.heap.size) (hoth : ∀ k, k ≠ L.B → w'.heap[k]? = w.heap[k]?)
    (hos : w'.os = w.os) (htape : w'.tape = w.tape) (hout : w'.output = w.output) (ho : ORel E φ o1 L w') : WRel E φ { s with heap := s.heap.set b o1 } w' := by
  have hget : ∀ b' o, (s.heap.set b o1).get b' = some o → (b' = b ∧ o = o1) ∨ (b' ≠ b ∧ s.heap.get b' = some o) := by
    intro b' o hb'
    rw [PM.get_set] at hb'
    split at hb'
    · rename_i e; exact .inl ⟨e, by simpa using hb'.symm⟩
    · rename_i e; exact .inr ⟨e, hb'⟩
  refine ⟨fun b' l hl => by rw [hsz]; exact h.lt b' l hl, h.inj, ?_, ?_, ?_, ?_, h.flt, ?_, ?_, h.ban⟩
  · intro b' o l hb' hl
    rcases hget b' o hb' with ⟨rfl, rfl⟩ | ⟨e, hb'⟩
    · rw [hfam]; exact h.fam _ _ _ hb hl
    · exact h.fam _ _ _ hb' hl
  · intro b' o l hb' hl
    rcases hget b' o hb' with ⟨rfl, rfl⟩ | ⟨e, hb'⟩
    · rw [hφ] at hl; obtain rfl := Option.some.inj hl; exact ho
    · by_cases hB : l.B = L.B
      · by_cases hlive : o.live = true
        · exact absurd (uniq b' o l hb' hlive hl hB) e
        · cases o <;> simp [DObj.live] at hlive
          trivial
      · exact (h.obj _ _ _ hb' hl).mono (Ren.le_refl _) (hoth _ hB)
  · intro b' o hb' hl
    rcases hget b' o hb' with ⟨rfl, rfl⟩ | ⟨e, hb'⟩
    · rw [hfam]; exact h.live _ _ hb hl0
    · exact h.live _ _ hb' hl
  · intro b' o hb'
    rcases hget b' o hb' with ⟨rfl, rfl⟩ | ⟨e, hb'⟩
    · rw [hfam]; exact h.hlt _ _ hb
    · exact h.hlt _ _ hb'
  · intro f ms hms x hx
    obtain ⟨o, h1, h2⟩ := h.mem f ms hms x hx
    by_cases e : x = b
    · subst e
      rw [hb] at h1; obtain rfl := Option.some.inj h1
      exact ⟨o1, PM.get_set_self _ _ _, hfam.trans h2⟩
    · exact ⟨o, by rw [PM.get_set_ne _ _ e]; exact h1, h2⟩
  · have hB := (h.lt _ _ hφ).2.2
    exact ⟨hos.trans h.below.os, htape.trans h.below.tape, hout.trans h.below.output, by rw [hsz]; exact h.below.size, fun k hk => (hoth k (by omega)).trans (h.below.block k hk)⟩

theorem write_sound (h : WRel E φ s w) {b o : Nat} {cs : List DV} {vs : List Value} {s' : St} {L : Loc} (hφ : φ b = some L) (hrel : RelL E.σ φ cs vs) (hw : s.write b o cs = some s') :
    ∃ w', (storeCells ⟨L.B, L.D + o, none⟩ vs).run P w = .ok () w' ∧ WRel E φ s' w' := by
  unfold St.write at hw
  split at hw
  · rename_i pm m fam ho
    cases hc : Nat.ble (o + cs.length) m && cs.all DV.one with
    | false => rw [hc] at hw; simp at hw
    | true =>
      rw [hc] at hw
      simp only [cond_true, Option.some.injEq] at hw
      subst hw
      simp only [Bool.and_eq_true] at hc
      have hle := Nat.le_of_ble_eq_true hc.1
      have hlen := hrel.length
      obtain ⟨t1, t2, t3, t4, _⟩ := touch_sound h ho
      obtain ⟨arr, e, fz, c1, c2, c3, c4, c5⟩ := h.cells ho hφ
      obtain ⟨w', cs', r1, r2, r3, r4, r5, r6, r7, r8, r9⟩ := storeCells_run (P := P) vs 0 L.B (L.D + o) w arr e fz c1 (by omega) (by rw [c2]; exact c3) (hrel.one E.one hc.2)
      refine ⟨w', r1, t1.change (o1 := .cells (setRow pm o cs) m fam) t2 hφ rfl rfl ?_ r5 r6 r2 r3 r4 ?_⟩
      · intro b' o' l' hb' hl hφ' hB
        refine t4 b' o' hb' hl ?_
        have e1 := t1.inj _ _ _ _ hφ' hφ hB
        rw [t1.fam _ _ _ hb' hφ', t1.fam _ _ _ t2 hφ] at e1
        exact e1
      · refine ⟨cs', e, fz, r7, by omega, c3, c4, fun i hi => ?_⟩
        obtain ⟨d, x, k1, k2, k3⟩ := c5 i hi
        rw [get_setRow, r9]
        by_cases g : o ≤ i ∧ i < o + cs.length
        · rw [if_pos g, if_pos (by omega)]
          have hx : cs[i - o]? = some (cs[i - o]'(by omega)) := List.getElem?_eq_getElem _
          obtain ⟨y, hy, hr⟩ := hrel.get _ _ hx
          exact ⟨_, y, hx, by rw [show L.D + i - (L.D + o + 0) = i - o by omega]; exact hy, hr⟩
        · rw [if_neg g, if_neg (by omega)]
          exact ⟨d, x, k1, k2, k3⟩
  · simp at hw

theorem storeD_sound (h : WRel E φ s w) {t : TypeId} {a x : DV} {av xv : Value} {s' : St} (ha : Rel E.σ φ a av) (hx : Rel E.σ φ x xv) (hs : storeD P t a x s = some s') :
    ∃ w', (Instr.storeAt t av xv).run P w = .ok () w' ∧ WRel E φ s' w' := by
  unfold storeD at hs
  split at hs
  · rename_i b o n hn
    cases ha with | ptr hφ =>
    cases hc : Nat.beq x.cells.length n with
    | false => rw [hc] at hs; simp at hs
    | true =>
      rw [hc] at hs
      simp only [cond_true] at hs
      have hcl := hx.cells E.one
      obtain ⟨w', h1, h2⟩ := write_sound (P := P) h hφ hcl hs
      refine ⟨w', ?_, h2⟩
      have hlen := hcl.length
      have heq := Nat.eq_of_beq_eq_true hc
      have hsz : xv.cells.size = n := by rw [← heq, hlen]; simp
      simp only [Instr.storeAt, Instr.sureAddr, Sem.run_bind, Sem.run_pure, Result.andThen_ok, storeVar, run_szOf hn]
      rw [if_neg (by omega)]
      simpa using h1
  · simp at hs

theorem boxD_sound (h : WRel E φ s w) {t : TypeId} {x d : DV} {xv : Value} {s' : St} (hx : Rel E.σ φ x xv) (hs : boxD x s = some (d, s')) :
    ∃ y w' ψ, (newVar t xv).run P w = .ok y w' ∧ φ.le ψ ∧ WRel E ψ s' w' ∧ Rel E.σ ψ d (.pointer (some y)) := by
  unfold boxD at hs
  cases hc : x.cells.all DV.one with
  | false => rw [hc] at hs; simp at hs
  | true =>
    rw [hc] at hs
    simp only [cond_true, Option.some.injEq, Prod.mk.injEq] at hs
    obtain ⟨rfl, rfl⟩ := hs
    have hcl := hx.cells E.one
    obtain ⟨h1, h2, h3⟩ := newRow_sound (rest := #[]) h hcl t
    refine ⟨⟨w.heap.size, 0, none⟩, _, _, ?_, h2, h1, ?_⟩
    · simp only [newVar, newRow, Sem.run_bind, run_newObj, Result.andThen_ok, Sem.run_pure]
      simp only [Array.append_empty]
      rfl
    · rw [h3]
      exact .ptr (l := ⟨w.heap.size, 0, _, s.next⟩) (Ren.upd_self _ _ _)

theorem repeatL_length {α : Type} (l : List α) : ∀ n, (repeatL l n).length = n * l.length
  | 0 => by simp [repeatL]
  | n + 1 => by simp [repeatL, repeatL_length l n, Nat.add_mul]; omega

theorem repeatL_get {α : Type} (l : List α) (hl : 0 < l.length) : ∀ n i, i < n * l.length → (repeatL l n)[i]? = l[i % l.length]?
  | 0, i, h => by omega
  | n + 1, i, h => by
    simp only [repeatL, List.getElem?_append]
    by_cases g : i < l.length
    · rw [if_pos g, Nat.mod_eq_of_lt g]
    · rw [if_neg g, repeatL_get l hl n (i - l.length) (by rw [Nat.add_mul] at h; omega)]
      congr 1
      rw [Nat.mod_eq_sub_mod (Nat.le_of_not_lt g)]

theorem RelL.repeat {d : List DV} {v : List Value} (h : RelL E.σ φ d v) : ∀ n, RelL E.σ φ (repeatL d n) (repeatL v n)
  | 0 => .nil
  | n + 1 => h.append (RelL.repeat h n)

/-- The model's row of zeros. -/
theorem range_map_eq (z : Array Value) (n : Nat) : ((Array.range (n * z.size)).map (z[· % z.size]!)) = ⟨repeatL z.toList n⟩ := by
  apply Array.ext'
  apply List.ext_getElem?
  intro i
  simp only [Array.toList_map, Array.toList_range, List.getElem?_map]
  by_cases g : i < n * z.size
  · have hz : 0 < z.size := by
      rcases Nat.eq_zero_or_pos z.size with e | e
      · rw [e] at g; omega
      · exact e
    rw [List.getElem?_range g, repeatL_get _ (by simpa using hz) _ _ (by simpa using g)]
    have hm : i % z.size < z.size := Nat.mod_lt _ hz
    simp only [Option.map_some, Array.length_toList, Array.getElem?_toList]
    rw [getElem!_pos z _ hm, getElem?_pos z _ hm]
  · rw [List.getElem?_eq_none (by simpa using g), List.getElem?_eq_none (by rw [repeatL_length]; simpa using g)]
    rfl

theorem buildSliceD_sound (h : WRel E φ s w) {t : TypeId} {len : Nat} {ps : List (Nat × DV)} {qs : Array (Nat × Value)} {d : DV} {s' : St} (hp : PartsRel E φ ps qs.toList) (hs : buildSliceD P t len ps s = some (d, s')) :
    ∃ y w' ψ, (Instr.buildSlice t len qs).run P w = .ok y w' ∧ φ.le ψ ∧ WRel E ψ s' w' ∧ Rel E.σ ψ d y := by
  unfold buildSliceD at hs
  split at hs
  · rename_i elem hu
    split at hs
    · rename_i sz hz
      cases hc : Nat.ble (len * sz) 65536 && Nat.ble 1 sz with
      | false => rw [hc] at hs; simp at hs
      | true =>
        rw [hc] at hs
        simp only [cond_true, Option.bind_eq_some_iff] at hs
        simp only [Bool.and_eq_true] at hc
        have hle := Nat.le_of_ble_eq_true hc.1
        have h1 := Nat.le_of_ble_eq_true hc.2
        obtain ⟨z, hz', hs⟩ := hs
        cases hc2 : Nat.beq z.length sz with
        | false => rw [hc2] at hs; simp at hs
        | true =>
          rw [hc2] at hs
          simp only [cond_true, Option.bind_eq_some_iff] at hs
          have hzl := Nat.eq_of_beq_eq_true hc2
          obtain ⟨cs, hcs, hs⟩ := hs
          cases hc3 : cs.all DV.one with
          | false => rw [hc3] at hs; simp at hs
          | true =>
            rw [hc3] at hs
            simp only [cond_true, Option.some.injEq, Prod.mk.injEq] at hs
            obtain ⟨rfl, rfl⟩ := hs
            obtain ⟨zv, hzv, hzr⟩ := zeroCells_rel (E := E) (φ := φ) hz'
            have hzs : zv.cells.size = sz := by have := hzr.length; simp at this; omega
            have hfill := fill_sound (E := E) (φ := φ) (cells' := ⟨repeatL zv.cells.toList len⟩) hp (hzr.repeat len) hcs
            obtain ⟨r', hf, hrr⟩ := hfill
            obtain ⟨g1, g2, g3⟩ := newRow_sound (rest := #[]) h hrr elem
            have hcsl : cs.length = len * sz := by
              have : ∀ {pl : Nat → Option (Nat × Nat)} {a : List (Nat × DV)} {c r : List DV}, fillD pl c a = some r → r.length = c.length := by
                intro pl a
                induction a with
                | nil => intro c r hh; simp only [fillD, Option.some.injEq] at hh; rw [← hh]
                | cons x a ih =>
                  intro c r hh
                  obtain ⟨i, v⟩ := x
                  unfold fillD at hh
                  split at hh
                  · simp at hh
                  · split at hh
                    · rename_i hb
                      simp only [Bool.and_eq_true] at hb
                      rw [ih hh, setAt_length (Nat.le_of_ble_eq_true hb.2)]
                    · simp at hh
              rw [this hcs, repeatL_length, hzl]
            refine ⟨.slice (some ⟨w.heap.size, 0, none⟩) len len, _, _, ?_, g2, g1, ?_⟩
            · simp only [Instr.buildSlice, Sem.run_bind, run_und hu, Result.andThen_ok, run_szOf hz]
              rw [if_neg (by have : (2 : Nat) ^ 24 = 16777216 := by decide
                             omega)]
              have hrow : (newRow elem r').run P w = .ok ⟨w.heap.size, 0, none⟩ (w.alloc (.cells r' elem)) := rfl
              have hfin : (⟨r'.toList⟩ : Array Value) ++ #[] = r' := by simp
              rw [hfin]
              by_cases e : len * sz = 0
              · have h0 : len = 0 := by
                  rcases Nat.mul_eq_zero.1 e with e | e
                  · exact e
                  · omega
                subst h0
                have hf0 : Instr.fill (fun i => some (i * sz, sz)) #[] qs.toList = some r' := hf
                have hr0 : ∀ f : Nat → Value, (Array.range 0).map f = #[] := fun f => by simp
                simp only [Nat.zero_mul, if_true, Sem.run_bind, Sem.run_pure, Result.andThen_ok, hr0, hf0, hrow]
              · have hm := range_map_eq zv.cells len
                rw [hzs] at hm
                simp only [if_neg e, Sem.run_bind, run_zeroOf hzv, Sem.run_pure, Result.andThen_ok]
                rw [hzs, hm, hf]
                simp only [Sem.run_bind, hrow, Result.andThen_ok, Sem.run_pure]
            · rw [g3]
              refine .slice (l := ⟨w.heap.size, 0, _, s.next⟩) (Ren.upd_self _ _ _) (Nat.le_refl _) (Nat.le_refl _) (fun _ => rfl) ?_ (.inl rfl)
              have := hrr.length
              simp only [Array.length_toList] at this
              simp only [Array.length_toList, Array.size_empty]
              omega
    · simp at hs
  · simp at hs

end Go.Dm
