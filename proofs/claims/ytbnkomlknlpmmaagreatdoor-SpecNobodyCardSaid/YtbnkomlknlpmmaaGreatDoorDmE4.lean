import Derived.Test.YtbnkomlknlpmmaaGreatDoorDmE3
/-
  The abstract machine: append and copy.
-/
namespace Go.Dm
open Go.RowKit
variable {E : Env} {φ : Ren} {P : Program} {s : St} {w : World}

theorem src_sound (h : WRel E φ s w) {y : DV} {yv : Value} (hy : Rel E.σ φ y yv) {sz n k : Nat} (hk : srcLen y = some k) (hn : n ≤ k) {new : List DV} (hc : srcCells y sz n s = some new) :
    ∃ vs : List Value, RelL E.σ φ new vs ∧ (∀ w', (Builtin.lenOf yv).run P w' = .ok k w') ∧ (∀ w', w'.heap = w.heap → (Builtin.firstCells sz n yv).run P w' = .ok ⟨vs⟩ w') := by
  unfold srcCells at hc
  split at hc
  · cases hy
    simp only [srcLen, Option.some.injEq] at hk
    simp only [Option.some.injEq] at hc
    subst hc hk
    exact ⟨[], .nil, fun _ => rfl, fun _ _ => rfl⟩
  · rename_i b o len cp ex z
    simp only [srcLen, Option.some.injEq] at hk
    subst hk
    cases hb : Nat.beq z sz with
    | false => rw [hb] at hc; simp at hc
    | true =>
      obtain rfl := Nat.eq_of_beq_eq_true hb
      rw [hb] at hc
      simp only [cond_true] at hc
      cases hy with | slice hφ h1 h2 h3 h4 h5 =>
      rename_i L off cp'
      obtain ⟨vs, hl, hrel, hcell, hrun⟩ := row_sound (P := P) h hφ hc
      refine ⟨vs, hrel, fun _ => rfl, fun w' hw' => ?_⟩
      rcases h5 with rfl | h5
      · have hc' : ∀ a, w'.cell? a = w.cell? a := fun a => by simp only [World.cell?, hw']
        have := run_loadCells_list (P := P) w' ⟨L.B, L.D + o, none⟩ vs (fun j v hv => by rw [hc']; exact hcell j v hv)
        rw [hl] at this
        simpa [Builtin.firstCells] using this
      · have hn0 : n = 0 := by omega
        subst hn0
        simp only [Nat.zero_mul] at hl
        have : vs = [] := List.eq_nil_of_length_eq_zero hl
        subst this
        simp only [Builtin.firstCells, Nat.zero_mul]
        rfl
  · rename_i bs
    cases hy
    simp only [srcLen, Option.some.injEq] at hk
    subst hk
    cases hb : Nat.beq sz 1 with
    | false => rw [hb] at hc; simp at hc
    | true =>
      rw [hb] at hc
      simp only [cond_true, Option.some.injEq] at hc
      subst hc
      refine ⟨(bs.data.toList.take n).map fun b => Value.int .u8 b.toNat, ?_, fun _ => rfl, fun w' _ => ?_⟩
      · have := RelL.cs (σ := E.σ) (φ := φ) ((bs.data.toList.take n).map fun b => Value.int .u8 b.toNat)
        rw [List.map_map] at this
        exact this
      · simp only [Builtin.firstCells, Sem.run_pure]
        congr 1
        apply Array.ext'
        simp only [Array.toList_map]
        congr 1
        simp [List.extract_eq_take_drop]
  · simp at hc

theorem run_append_grows {t u ty elem : TypeId} {i : TypeInfo} {z : Value} {du : TypeDesc} (ht : P.underlying t = some (.slice elem)) (hi : P.info? elem = some i) (hz : i.zero = some z) (hu : P.underlying u = some du) (hni : ∀ k, du ≠ .int k)
    {base : Option Addr} {sLen sCap k : Nat} {xv : Value} {olds news : List Value} (hlen : ∀ w', (Builtin.lenOf xv).run P w' = .ok k w') (hold : (Builtin.firstCells i.size sLen (.slice base sLen sCap)).run P w.drew = .ok ⟨olds⟩ w.drew)
    (hnew : (Builtin.firstCells i.size k xv).run P w.drew = .ok ⟨news⟩ w.drew) (hg : sCap < sLen + k) (h63 : sLen + k ≤ 65536) (hb : i.bytes ≤ 65536) :
    (Builtin.append_ #[t, u] ty #[.slice base sLen sCap, xv]).run P w = .ok (.slice (some ⟨w.heap.size, 0, none⟩) (sLen + k) (grownCap w (sLen + k) sCap elem))
      (w.drew.alloc (.cells (⟨olds⟩ ++ ⟨news⟩ ++ Builtin.zeroCells z.cells (grownCap w (sLen + k) sCap elem - (sLen + k))) elem)) := by
  have hn : ¬ (sLen + k ≤ sCap) := by omega
  have h63' : ¬ (9223372036854775807 < ((sLen : Int) + (k : Int))) := by omega
  have h48' : ¬ (281474976710656 < Builtin.nextslicecap (sLen + k) sCap * i.bytes) := by
    have := growslice_fits (need := sLen + k) (old := sCap) (bytes := i.bytes) hg (by
      have : (sLen + k) * i.bytes ≤ 65536 * 65536 := Nat.mul_le_mul h63 hb
      omega)
    omega
  have hz' : (match du with | .int _ => true | _ => false) = false := by cases du <;> first | rfl | exact absurd rfl (hni _)
  simp [Builtin.append_, run_underlying ht, run_underlying hu, sizeOf, typeInfo, zeroValue, hi, hz, hlen, hn, h63', h48', Question.forced, hold, hnew, newRow, grownCap]
  congr 2
  apply Array.ext'
  simp [List.append_assoc]

theorem run_append_place {t u ty elem : TypeId} {i : TypeInfo} {du : TypeDesc} (ht : P.underlying t = some (.slice elem)) (hi : P.info? elem = some i) (hu : P.underlying u = some du) (hni : ∀ k, du ≠ .int k)
    {a : Addr} {sLen sCap k : Nat} {xv : Value} {news : List Value} {w' : World} (hlen : ∀ w', (Builtin.lenOf xv).run P w' = .ok k w')
    (hnew : (Builtin.firstCells i.size k xv).run P w = .ok ⟨news⟩ w) (hg : sLen + k ≤ sCap) (hst : (storeCells (a.add (sLen * i.size)) news).run P w = .ok () w') :
    (Builtin.append_ #[t, u] ty #[.slice (some a) sLen sCap, xv]).run P w = .ok (.slice (some a) (sLen + k) sCap) w' := by
  have hz' : (match du with | .int _ => true | _ => false) = false := by cases du <;> first | rfl | exact absurd rfl (hni _)
  simp [Builtin.append_, run_underlying ht, run_underlying hu, sizeOf, typeInfo, hi, hlen, hg, hnew, hst]

theorem run_append_nothing {t u ty elem : TypeId} {i : TypeInfo} {du : TypeDesc} (ht : P.underlying t = some (.slice elem)) (hi : P.info? elem = some i) (hu : P.underlying u = some du) (hni : ∀ k, du ≠ .int k)
    {xv : Value} {news : List Value} (hlen : ∀ w', (Builtin.lenOf xv).run P w' = .ok 0 w') (hnew : (Builtin.firstCells i.size 0 xv).run P w = .ok ⟨news⟩ w) :
    (Builtin.append_ #[t, u] ty #[.slice none 0 0, xv]).run P w = .ok (.slice none 0 0) w := by
  have hz' : (match du with | .int _ => true | _ => false) = false := by cases du <;> first | rfl | exact absurd rfl (hni _)
  simp [Builtin.append_, run_underlying ht, run_underlying hu, sizeOf, typeInfo, hi, hlen, hnew]

/-- A block that nothing names. -/
theorem WRel.garbage (h : WRel E φ s w) (o : Obj) : WRel E φ s (w.alloc o) := by
  have hsz := h.below.size
  have hB0 : E.B0 ≤ w.heap.size := Nat.le_trans E.h0 hsz
  refine ⟨fun b l hb => ?_, h.inj, h.fam, fun b o' l ho hl => ?_, h.live, h.hlt, h.flt, h.mem, h.below.alloc hB0 o, h.ban⟩
  · have := h.lt b l hb
    refine ⟨this.1, ?_, this.2.2⟩
    simp
    omega
  · exact (h.obj b o' l ho hl).mono (Ren.le_refl _) (Below.heap_alloc w o _ (h.lt b l hl).2.1)

/-- One more abstract block, for memory that is there. -/
theorem WRel.map (h : WRel E φ s w) {L : Loc} {o : DObj} {f : Nat} {ms : List Nat} (hB : L.B < w.heap.size) (hB0 : E.B0 ≤ L.B) (hfo : famOf s.next o = f) (hfl : L.fam = f) (hff : f < s.next)
    (hinj : ∀ b l, φ b = some l → l.B = L.B → l.fam = f) (hobj : ORel E (φ.upd s.next L) o L w)
    (hlive : ∀ b o', s.heap.get b = some o' → o'.live = true → famOf b o' = f → b ∈ ms) (hself : s.next ∈ ms) (hms : ∀ x, x ∈ ms → x ≠ s.next → ∃ o', s.heap.get x = some o' ∧ famOf x o' = f) :
    WRel E (φ.upd s.next L) { heap := s.heap.set s.next o, next := s.next + 1, fams := s.fams.set f ms } w := by
  have hle := Ren.le_upd (φ := φ) L h.fresh
  have hget : ∀ b o', (s.heap.set s.next o).get b = some o' → (b = s.next ∧ o' = o) ∨ (b ≠ s.next ∧ s.heap.get b = some o') := by
    intro b o' hb
    rw [PM.get_set] at hb
    split at hb
    · rename_i e; exact .inl ⟨e, by simpa using hb.symm⟩
    · rename_i e; exact .inr ⟨e, hb⟩
  refine ⟨?_, ?_, ?_, ?_, ?_, ?_, ?_, ?_, h.below, fun b hb => ⟨by rw [Ren.upd_ne _ _ (Nat.ne_of_lt (h.ban b hb).2)]; exact (h.ban b hb).1, Nat.lt_succ_of_lt (h.ban b hb).2⟩⟩
  · intro b l hb
    show b < s.next + 1 ∧ _
    by_cases e : b = s.next
    · subst e; rw [Ren.upd_self] at hb; obtain rfl := Option.some.inj hb; exact ⟨by omega, hB, hB0⟩
    · rw [Ren.upd_ne _ _ e] at hb; have := h.lt _ _ hb; exact ⟨by omega, this.2⟩
  · intro b b' l l' hb hb' hBB
    by_cases e : b = s.next
    · subst e; rw [Ren.upd_self] at hb; obtain rfl := Option.some.inj hb
      by_cases e' : b' = s.next
      · subst e'; rw [Ren.upd_self] at hb'; obtain rfl := Option.some.inj hb'; rfl
      · rw [Ren.upd_ne _ _ e'] at hb'; rw [hfl]; exact (hinj _ _ hb' hBB.symm).symm
    · rw [Ren.upd_ne _ _ e] at hb
      by_cases e' : b' = s.next
      · subst e'; rw [Ren.upd_self] at hb'; obtain rfl := Option.some.inj hb'; rw [hfl]; exact hinj _ _ hb hBB
      · rw [Ren.upd_ne _ _ e'] at hb'; exact h.inj _ _ _ _ hb hb' hBB
  · intro b o' l hb hl
    rcases hget b o' hb with ⟨rfl, rfl⟩ | ⟨e, hb⟩
    · rw [Ren.upd_self] at hl; obtain rfl := Option.some.inj hl; rw [hfl, hfo]
    · rw [Ren.upd_ne _ _ e] at hl; exact h.fam _ _ _ hb hl
  · intro b o' l hb hl
    rcases hget b o' hb with ⟨rfl, rfl⟩ | ⟨e, hb⟩
    · rw [Ren.upd_self] at hl; obtain rfl := Option.some.inj hl; exact hobj
    · rw [Ren.upd_ne _ _ e] at hl; exact (h.obj _ _ _ hb hl).mono hle rfl
  · intro b o' hb hl
    show match (s.fams.set f ms).get (famOf b o') with | none => b = famOf b o' | some ms => b ∈ ms
    rw [PM.get_set]
    rcases hget b o' hb with ⟨rfl, rfl⟩ | ⟨e, hb⟩
    · rw [if_pos hfo]; exact hself
    · by_cases e2 : famOf b o' = f
      · rw [if_pos e2]; exact hlive _ _ hb hl e2
      · rw [if_neg e2]; exact h.live _ _ hb hl
  · intro b o' hb
    show b < s.next + 1 ∧ _ < s.next + 1
    rcases hget b o' hb with ⟨rfl, rfl⟩ | ⟨e, hb⟩
    · rw [hfo]; omega
    · have := h.hlt _ _ hb; omega
  · intro f' ms' hms'
    show f' < s.next + 1
    have hms'' : (s.fams.set f ms).get f' = some ms' := hms'
    rw [PM.get_set] at hms''
    split at hms''
    · omega
    · have := h.flt _ _ hms''; omega
  · intro f' ms' hms' x hx
    show ∃ o', (s.heap.set s.next o).get x = some o' ∧ famOf x o' = f'
    have hms'' : (s.fams.set f ms).get f' = some ms' := hms'
    rw [PM.get_set] at hms''
    split at hms''
    · rename_i e
      obtain rfl := Option.some.inj hms''
      subst e
      by_cases ex : x = s.next
      · subst ex; exact ⟨o, PM.get_set_self _ _ _, hfo⟩
      · obtain ⟨o', h1, h2⟩ := hms x hx ex
        exact ⟨o', by rw [PM.get_set_ne _ _ ex]; exact h1, h2⟩
    · obtain ⟨o', h1, h2⟩ := h.mem _ _ hms'' x hx
      have := (h.hlt _ _ h1).1
      exact ⟨o', by rw [PM.get_set_ne _ _ (by omega)]; exact h1, h2⟩

end Go.Dm
