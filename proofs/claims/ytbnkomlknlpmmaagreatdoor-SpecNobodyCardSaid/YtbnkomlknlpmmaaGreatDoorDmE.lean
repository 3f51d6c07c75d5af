import Derived.Test.YtbnkomlknlpmmaaGreatDoorDmD2
/-
  The abstract machine: what changes memory: blocks laid, cells written.
-/
namespace Go.Dm
open Go.RowKit
variable {E : Env} {φ : Ren} {P : Program} {s : St} {w : World}

def Ren.upd (φ : Ren) (b : Nat) (L : Loc) : Ren := fun x => if x = b then some L else φ x
theorem Ren.upd_self (φ : Ren) (b : Nat) (L : Loc) : (φ.upd b L) b = some L := by simp [Ren.upd]
theorem Ren.upd_ne (φ : Ren) {b x : Nat} (L : Loc) (h : x ≠ b) : (φ.upd b L) x = φ x := by simp [Ren.upd, h]
theorem Ren.le_upd {φ : Ren} {b : Nat} (L : Loc) (h : φ b = none) : φ.le (φ.upd b L) := by
  intro x l hx
  have : x ≠ b := by rintro rfl; rw [h] at hx; cases hx
  rw [Ren.upd_ne _ _ this]; exact hx

theorem WRel.fresh (h : WRel E φ s w) : φ s.next = none := by
  cases hn : φ s.next with
  | none => rfl
  | some l => exact absurd (h.lt _ _ hn).1 (Nat.lt_irrefl _)

theorem LRel.mono {ψ : Ren} (hle : φ.le ψ) {L : DLoop} {M : Loop} (h : LRel E φ L M) : LRel E ψ L M :=
  ⟨h.state, h.pending, h.size, fun t ht => (h.tmps t ht).mono hle, h.out, h.params, h.assign, h.body, let ⟨l, h1, h2⟩ := h.defers; ⟨l, hle _ _ h1, h2⟩⟩

theorem CellsAt.mono {ψ : Ren} (hle : φ.le ψ) {l : Loc} {w w' : World} {pm : PM DV} {n : Nat} (hw : w'.heap[l.B]? = w.heap[l.B]?) (h : CellsAt E φ l w pm n) : CellsAt E ψ l w' pm n := by
  obtain ⟨cs, e, fz, h1, h2, h3, h4, h5⟩ := h
  refine ⟨cs, e, fz, hw.trans h1, h2, h3, h4, fun i hi => ?_⟩
  obtain ⟨d, x, k1, k2, k3⟩ := h5 i hi
  exact ⟨d, x, k1, k2, k3.mono hle⟩

theorem ORel.mono {ψ : Ren} (hle : φ.le ψ) {o : DObj} {l : Loc} {w w' : World} (hw : w'.heap[l.B]? = w.heap[l.B]?) (h : ORel E φ o l w) : ORel E ψ o l w' := by
  cases o with
  | cells pm n f => exact CellsAt.mono hle hw h
  | dead f => trivial
  | map es clock => obtain ⟨fs, h1, h2⟩ := h; exact ⟨fs, hw.trans h1, h2.mono hle⟩
  | siter s pos => exact hw.trans h
  | defd => exact hw.trans h
  | loop L => obtain ⟨M, h1, h2⟩ := h; exact ⟨M, hw.trans h1, h2.mono hle⟩

theorem WRel.of_heap (h : WRel E φ s w) {w' : World} (hw : w'.heap = w.heap) (hb : Below E.B0 E.w0 w') : WRel E φ s w' where
  lt := fun b l hb => by rw [hw]; exact h.lt b l hb
  inj := h.inj
  fam := h.fam
  obj := fun b o l ho hl => (h.obj b o l ho hl).mono (Ren.le_refl _) (by rw [hw])
  live := h.live
  hlt := h.hlt
  flt := h.flt
  mem := h.mem
  below := hb
  ban := h.ban

theorem WRel.drew (h : WRel E φ s w) : WRel E φ s w.drew := h.of_heap rfl h.below.drew

/-! ### A new block -/
theorem heap_push (w : World) (o : Obj) (k : Nat) : (w.heap.push o)[k]? = if k = w.heap.size then some o else w.heap[k]? := by
  rw [Array.getElem?_push]

theorem WRel.new (h : WRel E φ s w) {mk : Nat → DObj} {obj : Obj} {N : Nat} (hf : famOf s.next (mk s.next) = s.next)
    (ho : ORel E (φ.upd s.next ⟨w.heap.size, 0, N, s.next⟩) (mk s.next) ⟨w.heap.size, 0, N, s.next⟩ (w.alloc obj)) :
    WRel E (φ.upd s.next ⟨w.heap.size, 0, N, s.next⟩) (s.new mk).2 (w.alloc obj) ∧ φ.le (φ.upd s.next ⟨w.heap.size, 0, N, s.next⟩) ∧ (s.new mk).1 = s.next := by
  have hle := Ren.le_upd (φ := φ) ⟨w.heap.size, 0, N, s.next⟩ h.fresh
  have hsz := h.below.size
  have hB0 : E.B0 ≤ w.heap.size := Nat.le_trans E.h0 hsz
  have hnone : s.fams.get s.next = none := by
    cases hn : s.fams.get s.next with
    | none => rfl
    | some ms => exact absurd (h.flt _ _ hn) (Nat.lt_irrefl _)
  have hold : ∀ k, k < w.heap.size → (w.alloc obj).heap[k]? = w.heap[k]? := fun k hk => Below.heap_alloc w obj k hk
  have hsize : (w.alloc obj).heap.size = w.heap.size + 1 := by simp
  have hget : ∀ b o, (s.new mk).2.heap.get b = some o → (b = s.next ∧ o = mk s.next) ∨ (b ≠ s.next ∧ s.heap.get b = some o) := by
    intro b o hb
    have hb' : (s.heap.set s.next (mk s.next)).get b = some o := hb
    rw [PM.get_set] at hb'
    split at hb'
    · rename_i e; exact .inl ⟨e, by simpa using hb'.symm⟩
    · rename_i e; exact .inr ⟨e, hb'⟩
  refine ⟨?_, hle, rfl⟩
  refine ⟨?_, ?_, ?_, ?_, ?_, ?_, ?_, ?_, h.below.alloc hB0 obj, fun b hb => ⟨by rw [Ren.upd_ne _ _ (Nat.ne_of_lt (h.ban b hb).2)]; exact (h.ban b hb).1, Nat.lt_succ_of_lt (h.ban b hb).2⟩⟩
  · intro b l hb
    show b < s.next + 1 ∧ _
    rw [hsize]
    by_cases e : b = s.next
    · subst e; rw [Ren.upd_self] at hb; obtain rfl := Option.some.inj hb; exact ⟨by omega, by simp, hB0⟩
    · rw [Ren.upd_ne _ _ e] at hb; have := h.lt _ _ hb; exact ⟨by omega, by omega, this.2.2⟩
  · intro b b' l l' hb hb' hB
    by_cases e : b = s.next
    · subst e; rw [Ren.upd_self] at hb; obtain rfl := Option.some.inj hb
      by_cases e' : b' = s.next
      · subst e'; rw [Ren.upd_self] at hb'; obtain rfl := Option.some.inj hb'; rfl
      · rw [Ren.upd_ne _ _ e'] at hb'; have := (h.lt _ _ hb').2.1; simp only at hB; omega
    · rw [Ren.upd_ne _ _ e] at hb
      by_cases e' : b' = s.next
      · subst e'; rw [Ren.upd_self] at hb'; obtain rfl := Option.some.inj hb'; have := (h.lt _ _ hb).2.1; simp only at hB; omega
      · rw [Ren.upd_ne _ _ e'] at hb'; exact h.inj _ _ _ _ hb hb' hB
  · intro b o l hb hl
    rcases hget b o hb with ⟨rfl, rfl⟩ | ⟨e, hb⟩
    · rw [Ren.upd_self] at hl; obtain rfl := Option.some.inj hl; exact hf.symm
    · rw [Ren.upd_ne _ _ e] at hl; exact h.fam _ _ _ hb hl
  · intro b o l hb hl
    rcases hget b o hb with ⟨rfl, rfl⟩ | ⟨e, hb⟩
    · rw [Ren.upd_self] at hl; obtain rfl := Option.some.inj hl; exact ho
    · rw [Ren.upd_ne _ _ e] at hl; exact (h.obj _ _ _ hb hl).mono hle (hold _ (h.lt _ _ hl).2.1)
  · intro b o hb hlive
    show match s.fams.get (famOf b o) with | none => b = famOf b o | some ms => b ∈ ms
    rcases hget b o hb with ⟨rfl, rfl⟩ | ⟨e, hb⟩
    · rw [hf, hnone]
    · exact h.live _ _ hb hlive
  · intro b o hb
    show b < s.next + 1 ∧ _ < s.next + 1
    rcases hget b o hb with ⟨rfl, rfl⟩ | ⟨e, hb⟩
    · rw [hf]; omega
    · have := h.hlt _ _ hb; omega
  · intro f ms hms
    have := h.flt f ms hms
    show f < s.next + 1
    omega
  · intro f ms hms x hx
    obtain ⟨o, h1, h2⟩ := h.mem f ms hms x hx
    refine ⟨o, ?_, h2⟩
    show (s.heap.set s.next (mk s.next)).get x = some o
    rw [PM.get_set_ne _ _ (by have := (h.hlt _ _ h1).1; omega)]; exact h1

/-- A new row of cells. -/
theorem newRow_sound (h : WRel E φ s w) {l : List DV} {vs : List Value} {rest : Array Value} (hl : RelL E.σ φ l vs) (e : TypeId) :
    WRel E (φ.upd s.next ⟨w.heap.size, 0, vs.length + rest.size, s.next⟩) (s.newRow l).2 (w.alloc (.cells (⟨vs⟩ ++ rest) e)) ∧ φ.le (φ.upd s.next ⟨w.heap.size, 0, vs.length + rest.size, s.next⟩) ∧ (s.newRow l).1 = s.next := by
  refine h.new (N := vs.length + rest.size) (mk := fun b => .cells (PM.nil.ofList 0 l) l.length b) rfl ?_
  have hle := Ren.le_upd (φ := φ) ⟨w.heap.size, 0, vs.length + rest.size, s.next⟩ h.fresh
  have hlen := hl.length
  refine ⟨⟨vs⟩ ++ rest, e, (0, 0), by show (w.heap.push _)[w.heap.size]? = _; simp, by simp, .inl (Nat.le_refl _), by simp; omega, fun i hi => ?_⟩
  have hi' : i < l.length := hi
  have hx : l[i]? = some l[i] := List.getElem?_eq_getElem hi'
  obtain ⟨y, hy, hr⟩ := hl.get i _ hx
  refine ⟨l[i], y, ?_, ?_, hr.mono hle⟩
  · rw [PM.get_ofList, if_pos (by omega)]; simp
  · rw [Array.getElem?_append]
    rw [if_pos (by simp; omega)]
    simpa using hy

/-! ### Cells written -/
theorem storeCells_run : ∀ (vs : List Value) (i B o : Nat) (w : World) (cs : Array Value) (e : TypeId) (fz : Nat × Nat), w.heap[B]? = some (.cells cs e fz) → o + i + vs.length ≤ cs.size → (fz.2 ≤ fz.1 ∨ cs.size ≤ fz.1) → (∀ v ∈ vs, oneV v = true) →
    ∃ w' cs', (storeCells ⟨B, o, none⟩ vs i).run P w = .ok () w' ∧ w'.os = w.os ∧ w'.tape = w.tape ∧ w'.output = w.output ∧ w'.heap.size = w.heap.size ∧ (∀ k, k ≠ B → w'.heap[k]? = w.heap[k]?) ∧
      w'.heap[B]? = some (.cells cs' e fz) ∧ cs'.size = cs.size ∧ ∀ j, cs'[j]? = if o + i ≤ j ∧ j < o + i + vs.length then vs[j - (o + i)]? else cs[j]?
  | [], i, B, o, w, cs, e, fz, hb, hlen, hf, h1 => ⟨w, cs, rfl, rfl, rfl, rfl, rfl, fun _ _ => rfl, hb, rfl, fun j => by simp only [List.length_nil]; rw [if_neg (by omega)]⟩
  | v :: vs, i, B, o, w, cs, e, fz, hb, hlen, hf, h1 => by
    simp only [List.length_cons] at hlen
    have hone : v.oneCell' = true := by have := h1 v (by simp); cases v <;> simp_all [oneV, Value.oneCell']
    have hc : w.cell? ⟨B, o + i, none⟩ = some (cs[o + i]'(by omega)) := by simp [World.cell?, hb, show o + i < cs.size by omega]
    have hz : w.frozen? ⟨B, o + i, none⟩ = false := by
      obtain ⟨lo, hi⟩ := fz
      simp only [World.frozen?, hb]
      rw [Bool.and_eq_false_iff]
      simp only at hf
      by_cases g : lo ≤ o + i
      · right; simp; omega
      · left; simp; omega
    have hst : (store ((⟨B, o, none⟩ : Addr).add i) v).run P w = .ok () (w.setCell ⟨B, o + i, none⟩ v) := by
      rw [add_addr, run_store P w _ v _ hone]; simp [hc, hz]
    have hB : B < w.heap.size := by
      rcases Nat.lt_or_ge B w.heap.size with h | h
      · exact h
      · simp [Array.getElem?_eq_none h] at hb
    have hb2 : (w.setCell ⟨B, o + i, none⟩ v).heap[B]? = some (.cells (cs.setIfInBounds (o + i) v) e fz) := by
      simp [World.setCell, Array.getElem?_modify, hb]
    obtain ⟨w', cs', r1, r2, r3, r4, r5, r6, r7, r8, r9⟩ := storeCells_run vs (i + 1) B o (w.setCell ⟨B, o + i, none⟩ v) (cs.setIfInBounds (o + i) v) e fz hb2 (by simp; omega) (by simpa using hf) (fun x hx => h1 x (by simp [hx]))
    refine ⟨w', cs', ?_, r2, r3, r4, ?_, fun k hk => ?_, r7, by rw [r8]; simp, fun j => ?_⟩
    · simp only [storeCells, Sem.run_bind, hst, Result.andThen_ok, r1]
    · rw [r5]; simp [World.setCell]
    · rw [r6 k hk, Below.heap_setCell _ _ _ _ hk]
    · rw [r9 j]
      simp only [List.length_cons]
      by_cases e1 : j = o + i
      · subst e1
        rw [if_neg (by omega), if_pos (by omega), Array.getElem?_setIfInBounds, if_pos rfl, if_pos (by omega)]
        simp
      · by_cases g : o + (i + 1) ≤ j ∧ j < o + (i + 1) + vs.length
        · rw [if_pos g, if_pos (by omega), show j - (o + i) = (j - (o + (i + 1))) + 1 by omega, List.getElem?_cons_succ]
        · rw [if_neg g, if_neg (by omega), Array.getElem?_setIfInBounds, if_neg (by omega)]

theorem get_killAll : ∀ (l : List Nat) (h : PM DObj) (f j : Nat), (killAll h f l).get j = if j ∈ l then some (.dead f) else h.get j
  | [], h, f, j => by simp [killAll]
  | b :: bs, h, f, j => by
    simp only [killAll]
    rw [get_killAll bs, PM.get_set]
    by_cases h1 : j ∈ bs
    · rw [if_pos h1, if_pos (by simp [h1])]
    · rw [if_neg h1]
      by_cases h2 : j = b
      · subst h2; rw [if_pos rfl, if_pos (by simp)]
      · rw [if_neg h2, if_neg (by simp [h1, h2])]

/-- Behind a touch block b is the only live one of its family. -/
theorem touch_sound (h : WRel E φ s w) {b n fam : Nat} {pm : PM DV} (hb : s.heap.get b = some (.cells pm n fam)) :
    WRel E φ (s.touch b fam) w ∧ (s.touch b fam).heap.get b = some (.cells pm n fam) ∧ (s.touch b fam).next = s.next ∧
    (∀ b' o, (s.touch b fam).heap.get b' = some o → o.live = true → famOf b' o = fam → b' = b) ∧
    (∀ b', (s.touch b fam).heap.get b' = s.heap.get b' ∨ ((s.touch b fam).heap.get b' = some (.dead fam) ∧ b' ≠ b)) := by
  unfold St.touch
  cases hf : s.fams.get fam with
  | none =>
    refine ⟨h, hb, rfl, fun b' o hb' hl hfam => ?_, fun _ => .inl rfl⟩
    have h1 := h.live b' o hb' hl
    rw [hfam, hf] at h1
    have h2 := h.live b _ hb rfl
    simp only [famOf] at h2
    rw [hf] at h2
    simp only at h1 h2
    omega
  | some ms =>
    simp only
    have hget : ∀ j, (killAll s.heap fam (ms.filter fun x => !(Nat.beq x b))).get j = if j ∈ ms ∧ j ≠ b then some (.dead fam) else s.heap.get j := by
      intro j
      rw [get_killAll]
      simp only [List.mem_filter, PM.beqd]
      simp
    have hold : ∀ b' o, (if b' ∈ ms ∧ b' ≠ b then some (DObj.dead fam) else s.heap.get b') = some o → (o = .dead fam ∧ b' ∈ ms ∧ b' ≠ b) ∨ (s.heap.get b' = some o ∧ ¬ (b' ∈ ms ∧ b' ≠ b)) := by
      intro b' o ho
      split at ho
      · rename_i e; exact .inl ⟨by simpa using ho.symm, e⟩
      · rename_i e; exact .inr ⟨ho, e⟩
    have hfamb : famOf b (.cells pm n fam) = fam := rfl
    refine ⟨⟨h.lt, h.inj, ?_, ?_, ?_, ?_, ?_, ?_, h.below, h.ban⟩, ?_, ?_, ?_⟩
    · intro b' o l hb' hl
      simp only [hget] at hb'
      rcases hold b' o hb' with ⟨rfl, hm, _⟩ | ⟨hb', _⟩
      · obtain ⟨o', h1, h2⟩ := h.mem fam ms hf b' hm
        rw [h.fam b' o' l h1 hl, h2]; rfl
      · exact h.fam _ _ _ hb' hl
    · intro b' o l hb' hl
      simp only [hget] at hb'
      rcases hold b' o hb' with ⟨rfl, hm, _⟩ | ⟨hb', _⟩
      · trivial
      · exact h.obj _ _ _ hb' hl
    · intro b' o hb' hl
      simp only [hget] at hb'
      rcases hold b' o hb' with ⟨rfl, hm, _⟩ | ⟨hb', hne⟩
      · simp [DObj.live] at hl
      · have hlv := h.live _ _ hb' hl
        simp only [PM.get_set]
        by_cases e : famOf b' o = fam
        · rw [if_pos e]
          rw [e, hf] at hlv
          simp only at hlv ⊢
          by_cases e2 : b' = b
          · simp [e2]
          · exact absurd ⟨hlv, e2⟩ hne
        · rw [if_neg e]; exact hlv
    · intro b' o hb'
      simp only [hget] at hb'
      rcases hold b' o hb' with ⟨rfl, hm, _⟩ | ⟨hb', _⟩
      · obtain ⟨o', h1, h2⟩ := h.mem fam ms hf b' hm
        have := h.hlt _ _ h1
        rw [h2] at this
        exact this
      · exact h.hlt _ _ hb'
    · intro f ls hls
      simp only [PM.get_set] at hls
      by_cases e : f = fam
      · subst e; exact h.flt _ _ hf
      · rw [if_neg e] at hls; exact h.flt _ _ hls
    · intro f ls hls x hx
      simp only [PM.get_set] at hls
      simp only [hget]
      by_cases e : f = fam
      · subst e
        rw [if_pos rfl] at hls
        obtain rfl := Option.some.inj hls
        simp only [List.mem_singleton] at hx
        subst hx
        exact ⟨_, by rw [if_neg (by simp)]; exact hb, rfl⟩
      · rw [if_neg e] at hls
        obtain ⟨o, h1, h2⟩ := h.mem _ _ hls x hx
        by_cases g : x ∈ ms ∧ x ≠ b
        · obtain ⟨o', k1, k2⟩ := h.mem fam ms hf x g.1
          rw [k1] at h1
          obtain rfl := Option.some.inj h1
          exact absurd (h2.symm.trans k2) e
        · exact ⟨o, by rw [if_neg g]; exact h1, h2⟩
    · simp only [hget]; rw [if_neg (by simp)]; exact hb
    · trivial
    · refine ⟨fun b' o hb' hl hfam => ?_, fun b' => ?_⟩
      · simp only [hget] at hb'
        rcases hold b' o hb' with ⟨rfl, hm, _⟩ | ⟨hb', hne⟩
        · simp [DObj.live] at hl
        · have hlv := h.live _ _ hb' hl
          rw [hfam, hf] at hlv
          simp only at hlv
          exact Classical.byContradiction fun e => hne ⟨hlv, e⟩
      · simp only [hget]
        by_cases g : b' ∈ ms ∧ b' ≠ b
        · right; rw [if_pos g]; exact ⟨rfl, g.2⟩
        · left; rw [if_neg g]

end Go.Dm
