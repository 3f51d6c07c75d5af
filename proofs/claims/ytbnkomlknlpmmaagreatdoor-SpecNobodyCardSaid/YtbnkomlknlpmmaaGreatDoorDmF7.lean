import Derived.Test.YtbnkomlknlpmmaaGreatDoorDmF6
/-
  The abstract machine: regions that draw their order, whole.
-/
namespace Go.Dm
open Go.RowKit
variable {E : Env} {φ : Ren} {P : Program} {w : World} {T : Tab} {rc : Rec} {N : Nat}

def maskAct (a : Act) (ts : List Tmp) : Act := { a with tmps := a.tmps.mapIdx fun t v => if t ∈ ts then v else undef }

theorem maskAct_getD (a : Act) (ts : List Tmp) (t : Nat) : (maskAct a ts).tmps.getD t undef = if t ∈ ts then a.tmps.getD t undef else undef := by
  unfold maskAct
  simp only [Array.getD_eq_getD_getElem?, Array.getElem?_mapIdx]
  cases a.tmps[t]? with
  | none => simp
  | some v => simp

theorem maskAct_get (a : Act) (ts : List Tmp) (t : Nat) (h : t ∈ ts) : (maskAct a ts).tmps[t]? = a.tmps[t]? := by
  unfold maskAct
  rw [Array.getElem?_mapIdx]
  cases a.tmps[t]? with
  | none => rfl
  | some v => simp [h]

theorem put_nt (fr : Fr) (dst : Option Tmp) (d : DV) : (fr.put dst d).nt = fr.nt ∧ (fr.put dst d).marks = fr.marks := by
  unfold Fr.put
  split
  · rename_i t
    cases Nat.blt t fr.nt <;> exact ⟨rfl, rfl⟩
  · exact ⟨rfl, rfl⟩

theorem put_get_ne (fr : Fr) (dst : Option Tmp) (d : DV) (t : Nat) (h : dst ≠ some t) : (fr.put dst d).tm.get t = fr.tm.get t := by
  unfold Fr.put
  split
  · rename_i u
    have hne : t ≠ u := fun e => h (by rw [e])
    cases Nat.blt u fr.nt
    · rfl
    · exact PM.get_set_ne _ _ hne
  · rfl

theorem put_get_eq (fr : Fr) (d : DV) (t : Nat) (ht : t < fr.nt) : (fr.put (some t) d).tm.get t = some d := by
  unfold Fr.put
  simp only
  rw [show Nat.blt t fr.nt = true by simpa [Nat.blt_eq] using ht]
  exact PM.get_set_self _ _ _

theorem put_get_out (fr : Fr) (dst : Option Tmp) (d : DV) (t : Nat) (ht : fr.nt ≤ t) : (fr.put dst d).tm.get t = fr.tm.get t := by
  by_cases h : dst = some t
  · subst h
    unfold Fr.put
    simp only
    rw [show Nat.blt t fr.nt = false by rw [Bool.eq_false_iff]; simpa [Nat.blt_eq] using ht]
    rfl
  · exact put_get_ne _ _ _ _ h

theorem act_put_getD_ne (a : Act) (dst : Option Tmp) (v : Value) (t : Nat) (h : dst ≠ some t) : (a.put dst v).tmps.getD t undef = a.tmps.getD t undef := by
  unfold Act.put
  cases dst with
  | none => rfl
  | some u =>
    simp only [Array.getD_eq_getD_getElem?]
    rw [Array.getElem?_setIfInBounds, if_neg (fun e => h (by rw [e]))]

theorem act_put_getD_eq (a : Act) (v : Value) (t : Nat) (h : t < a.tmps.size) : (a.put (some t) v).tmps.getD t undef = v := by
  unfold Act.put
  simp [Array.getD_eq_getD_getElem?, h]

theorem act_put_size (a : Act) (dst : Option Tmp) (v : Value) : (a.put dst v).tmps.size = a.tmps.size ∧ (a.put dst v).defers = a.defers := by
  unfold Act.put
  cases dst <;> simp

/-- A block that was laid ahead is made. -/
theorem WRel.reveal {s : St} {X : Nat → Prop} (h : WRel E φ s w) {b : Nat} (hb : φ b = none) (hlt : b < s.next) {pm : PM DV} {z : List DV} (ho : s.heap.get b = some (.cells pm z.length b)) (hz : pm.toL 0 z.length = some z) {cs : Array Value} (hr : RelL E.σ φ z cs.toList) (t : TypeId)
    (hX : ∀ c, X c → E.ban c ∧ c ≠ b) : WRel (E.at X) (φ.upd b ⟨w.heap.size, 0, cs.size, b⟩) s (w.alloc (.cells cs t)) ∧ φ.le (φ.upd b ⟨w.heap.size, 0, cs.size, b⟩) := by
  have hle := Ren.le_upd (φ := φ) (b := b) ⟨w.heap.size, 0, cs.size, b⟩ hb
  have hsz := h.below.size
  have hB0 : E.B0 ≤ w.heap.size := Nat.le_trans E.h0 hsz
  have hsize : (w.alloc (.cells cs t)).heap.size = w.heap.size + 1 := by simp
  refine ⟨⟨fun c l hc => ?_, fun c c' l l' hc hc' hBB => ?_, fun c o l hc hl => ?_, fun c o l hc hl => ?_, h.live, h.hlt, h.flt, h.mem, h.below.alloc hB0 _, fun c hc => ?_⟩, hle⟩
  · by_cases e : c = b
    · subst e; rw [Ren.upd_self] at hc; obtain rfl := Option.some.inj hc; exact ⟨hlt, by rw [hsize]; exact Nat.lt_succ_self _, hB0⟩
    · rw [Ren.upd_ne _ _ e] at hc; have := h.lt _ _ hc; exact ⟨this.1, by rw [hsize]; exact Nat.lt_succ_of_lt this.2.1, this.2.2⟩
  · by_cases e : c = b
    · subst e; rw [Ren.upd_self] at hc; obtain rfl := Option.some.inj hc
      by_cases e' : c' = c
      · subst e'; rw [Ren.upd_self] at hc'; obtain rfl := Option.some.inj hc'; rfl
      · rw [Ren.upd_ne _ _ e'] at hc'; have := (h.lt _ _ hc').2.1; simp only at hBB; omega
    · rw [Ren.upd_ne _ _ e] at hc
      by_cases e' : c' = b
      · subst e'; rw [Ren.upd_self] at hc'; obtain rfl := Option.some.inj hc'; have := (h.lt _ _ hc).2.1; simp only at hBB; omega
      · rw [Ren.upd_ne _ _ e'] at hc'; exact h.inj _ _ _ _ hc hc' hBB
  · by_cases e : c = b
    · subst e; rw [Ren.upd_self] at hl; obtain rfl := Option.some.inj hl
      rw [ho] at hc; obtain rfl := Option.some.inj hc; rfl
    · rw [Ren.upd_ne _ _ e] at hl; exact h.fam _ _ _ hc hl
  · by_cases e : c = b
    · subst e; rw [Ren.upd_self] at hl; obtain rfl := Option.some.inj hl
      rw [ho] at hc; obtain rfl := Option.some.inj hc
      have hlen := hr.length
      refine ⟨cs, t, (0, 0), by show (w.heap.push _)[w.heap.size]? = _; simp, rfl, .inl (Nat.le_refl _), by simp at hlen ⊢; omega, fun i hi => ?_⟩
      have hx : z[i]? = some z[i] := List.getElem?_eq_getElem hi
      obtain ⟨y, hy, hry⟩ := hr.get i _ hx
      refine ⟨z[i], y, ?_, by simpa using hy, hry.mono hle⟩
      have := PM.toL_get hz i hi
      rw [Nat.zero_add] at this
      rw [this, hx]
    · rw [Ren.upd_ne _ _ e] at hl
      exact ((h.obj c o l hc hl).mono hle (Below.heap_alloc w _ _ (h.lt c l hl).2.1)).ban
  · obtain ⟨h1, h2⟩ := hX c hc
    exact ⟨by rw [Ren.upd_ne _ _ h2]; exact (h.ban c h1).1, (h.ban c h1).2⟩

namespace TC
variable {ops : Array Oper} {fr fr' : Fr} {s s' : St} (C : TC P T rc ops fr fr' s s')

theorem F_succ {i : Nat} (hi : i < ops.size) : ∃ x, C.tr[i]? = some x ∧ ops[i]? = some x.o ∧ C.F (i + 1) = (C.F i).put x.o.dst x.d := by
  obtain ⟨x, hx⟩ := C.at_ i hi
  obtain ⟨_, _, _, _, h5, _⟩ := C.all i x hx
  exact ⟨x, hx, C.op_at hx, h5⟩

theorem F_nt : ∀ {i : Nat}, i ≤ ops.size → (C.F i).nt = fr.nt ∧ (C.F i).marks = fr.marks ∧ (C.F i).round = fr.round
  | 0, _ => by rw [C.f0]; exact ⟨rfl, rfl, rfl⟩
  | i + 1, hi => by
    obtain ⟨x, _, _, h⟩ := C.F_succ (i := i) (by omega)
    obtain ⟨h1, h2, h3⟩ := F_nt (i := i) (by omega)
    rw [h]
    exact ⟨(put_nt _ _ _).1.trans h1, (put_nt _ _ _).2.trans h2, (put_round _ _ _).trans h3⟩

theorem F_out (ho : ∀ t, fr.nt ≤ t → fr.tm.get t = none) : ∀ {i : Nat}, i ≤ ops.size → ∀ t, fr.nt ≤ t → (C.F i).tm.get t = none
  | 0, _, t, ht => by rw [C.f0]; exact ho t ht
  | i + 1, hi, t, ht => by
    obtain ⟨x, _, _, h⟩ := C.F_succ (i := i) (by omega)
    rw [h, put_get_out _ _ _ _ (by rw [(C.F_nt (i := i) (by omega)).1]; exact ht)]
    exact F_out ho (by omega) t ht

theorem F_const_range {t : Nat} : ∀ (m a : Nat), a + m ≤ ops.size → (∀ (q : Nat) o, a ≤ q → q < a + m → ops[q]? = some o → o.dst ≠ some t) → (C.F (a + m)).tm.get t = (C.F a).tm.get t
  | 0, a, _, _ => rfl
  | m + 1, a, hm, h => by
    obtain ⟨x, _, ho, hf⟩ := C.F_succ (i := a + m) (by omega)
    rw [← Nat.add_assoc, hf, put_get_ne _ _ _ _ (h _ _ (by omega) (by omega) ho)]
    exact F_const_range m a (by omega) fun q o h1 h2 hy => h q o h1 (by omega) hy

theorem F_const {t a b : Nat} (hab : a ≤ b) (hb : b ≤ ops.size) (h : ∀ (q : Nat) o, a ≤ q → q < b → ops[q]? = some o → o.dst ≠ some t) : (C.F b).tm.get t = (C.F a).tm.get t := by
  have := C.F_const_range (t := t) (b - a) a (by omega) fun q o h1 h2 hx => h q o h1 (by omega) hx
  rw [show a + (b - a) = b by omega] at this
  exact this

/-- What is laid ahead, and not yet made. -/
def banL (E : Env) (listed : Array Bool) : Nat → Prop := fun b => E.ban b ∨ ∃ (i : Nat) (x : TR) (z : List DV), C.tr[i]? = some x ∧ x.fl = some (b, z) ∧ ¬ listed.getD i false = true

/-- A run in another order, on the way. -/
structure Inv (E : Env) (φ : Ren) (listed : Array Bool) (a : Act) (w : World) : Prop where
  size : listed.size = ops.size
  here : ∃ k ψ, C.Done (fun j => listed.getD j false = true) k ∧ φ.le ψ ∧ WRel (E.at (C.banL E listed)) ψ (C.S k) w ∧ MarksRel ψ fr.marks a.defers ∧
    ∀ t, t < fr.nt → ∀ j, j ≤ ops.size → (∀ (i : Nat) o, ops[i]? = some o → o.dst = some t → (listed.getD i false = true ↔ i < j)) → Rel E.σ ψ (((C.F j).tm.get t).getD undefD) (a.tmps.getD t undef)
  nt : a.tmps.size = fr.nt
  out : ∀ t, fr.nt ≤ t → fr.tm.get t = none
  lt : ∀ b, E.ban b → b < s.next

theorem getD_tf {listed : Array Bool} {i : Nat} (h : listed.getD i true = false) : ¬ listed.getD i false = true := by
  simp only [Array.getD_eq_getD_getElem?] at *
  cases hx : listed[i]? with
  | none => rw [hx] at h; simp at h
  | some b => rw [hx] at h; simp_all

theorem getD_ft {listed : Array Bool} {i : Nat} (hi : i < listed.size) (h : ¬ listed.getD i false = true) : listed.getD i true = false := by
  simp only [Array.getD_eq_getD_getElem?] at *
  rw [Array.getElem?_eq_getElem hi] at *
  simp_all

theorem getD_lt {listed : Array Bool} {i : Nat} (h : listed.getD i false = true) : i < listed.size := by
  rcases Nat.lt_or_ge i listed.size with h' | h'
  · exact h'
  · simp [Array.getElem?_eq_none h'] at h

theorem getD_set_iff {listed : Array Bool} {i j : Nat} (hi : i < listed.size) : (listed.setIfInBounds i true).getD j false = true ↔ (listed.getD j false = true ∨ j = i) := by
  by_cases e : i = j
  · subst e; simp [hi]
  · rw [getD_set_ne false e]
    exact ⟨.inl, fun h => h.resolve_right (fun h => e h.symm)⟩

theorem Done.congr {C : TC P T rc ops fr fr' s s'} {L L' : Nat → Prop} {k : Nat} (h : C.Done L k) (e : ∀ j, L' j ↔ L j) : C.Done L' k := by
  have : L' = L := funext fun j => propext (e j)
  rw [this]; exact h

variable {C}

/-- At one that may come up, every temporary that it looks at is as in the order of the text. -/
theorem at_text {L : Nat → Prop} {k : Nat} (D : C.Done L k) {i : Nat} {o : Oper} (ho : ops[i]? = some o) (hni : ¬ L i) (hi : ∀ e ∈ o.after, Region.binds .any e = true → L e.on) {t : Nat} (ht : o.dst = some t ∨ t ∈ o.looksAt ops) :
    ∀ (j : Nat) o', ops[j]? = some o' → o'.dst = some t → (L j ↔ j < i) := by
  intro j o' ho' hd
  rcases C.ok.tmp i o ho t ht j o' ho' hd with rfl | h | h
  · exact ⟨fun h => absurd h hni, fun h => by omega⟩
  · have := C.ok.bit_lt h
    exact ⟨fun _ => this, fun _ => D.bit ho hi h⟩
  · have := C.ok.bit_lt h
    refine ⟨fun hl => absurd (D.bit_of hl h) hni, fun h' => by omega⟩

theorem Inv.step (hrc : ∀ X, RecOK (E.at X) P N rc) (hT : ∀ X, TabOK (E.at X) P T) (hN : NoCount P) {listed : Array Bool} {a : Act} {w : World} (I : C.Inv E φ listed a w) {md : Region.Mode} {i : Nat} (hr : i ∈ Region.ready md ops listed) (r : Option Nat) (n : Nat)
    (Q : Exit → Act → World → Prop) (K : Act → World → Prop) (hK : ∀ a' w', C.Inv E φ (listed.setIfInBounds i true) a' w' → K a' w') : wpOpIn (Fw r) n P ops Q i K a w := by
  obtain ⟨hun, o, ho, haf⟩ := mem_ready.1 hr
  have hin : i < ops.size := (Array.getElem?_eq_some_iff.1 ho).1
  have hni := getD_tf hun
  have haf' : ∀ e ∈ o.after, Region.binds .any e = true → listed.getD e.on false = true := fun e he hb => haf e he (binds_any_md hb md)
  obtain ⟨x, hx⟩ := C.at_ i hin
  obtain ⟨h0, h2, h3, h4, h5, h6, h7, h8, h9⟩ := C.all i x hx
  have h1 := C.op_at hx
  rw [ho] at h1
  obtain rfl := Option.some.inj h1
  obtain ⟨k, ψ, D, hle, hw, hm, htm⟩ := I.here
  obtain ⟨n1, n2, n3⟩ := C.F_nt (i := i) (by omega)
  -- what the operation sees
  have hA : ARel (E.at (C.banL E listed)) ψ x.fr (maskAct a (x.o.looksAt ops)) := by
    rw [h2]
    refine ⟨?_, fun t ht => ?_, fun t ht => ?_, ?_⟩
    · show (maskAct a _).tmps.size = (C.F i).nt
      rw [n1, ← I.nt]; simp [maskAct]
    · have ht : t < fr.nt := by rw [← n1]; exact ht
      rw [maskAct_getD]
      show Rel E.σ ψ (((maskTm (C.F i).tm (x.o.looksAt ops)).get t).getD undefD) _
      rw [get_maskTm]
      by_cases hl : t ∈ x.o.looksAt ops
      · rw [if_pos hl, if_pos hl]
        exact htm t ht i (by omega) (at_text D ho hni haf' (.inr hl))
      · rw [if_neg hl, if_neg hl]
        exact .c _
    · show (maskTm (C.F i).tm (x.o.looksAt ops)).get t = none
      rw [get_maskTm]
      split
      · exact C.F_out I.out (by omega) t (by rw [← n1]; exact ht)
      · rfl
    · show MarksRel ψ (C.F i).marks a.defers
      rw [n2]; exact hm
  have heval : ∀ y ∈ x.o.op.operands, a.eval y = (maskAct a (x.o.looksAt ops)).eval y := by
    intro y hy
    cases y with
    | tmp t =>
      show a.tmps.getD t undef = (maskAct a (x.o.looksAt ops)).tmps.getD t undef
      have hl : t ∈ x.o.looksAt ops := List.mem_append_left _ (List.mem_filterMap.2 ⟨.tmp t, by simpa using hy, rfl⟩)
      rw [maskAct_getD, if_pos hl]
    | const v => rfl
    | global g => rfl
    | func f => rfl
  have hyield : Region.wanted x.o (yielded ops a.tmps) = Region.wanted x.o (yielded ops (maskAct a (x.o.looksAt ops)).tmps) := by
    unfold Region.wanted
    cases hg : x.o.guard with
    | none => rfl
    | some jw =>
      obtain ⟨j, want⟩ := jw
      dsimp only
      unfold yielded
      cases hd : (ops[j]?).bind (·.dst) with
      | none => rfl
      | some t =>
        simp only [Option.bind_some]
        rw [maskAct_get]
        unfold Oper.looksAt
        rw [hg]
        exact List.mem_append_right _ (by dsimp only; rw [hd]; simp)
  -- what is behind it
  have behind : ∀ (k' : Nat) (χ : Ren) (v : Value) (w' : World), C.Done (fun j => listed.getD j false = true ∨ j = i) k' → ψ.le χ → WRel (E.at (C.banL E (listed.setIfInBounds i true))) χ (C.S k') w' → Rel E.σ χ x.d v → K (a.put x.o.dst v) w' := by
    intro k' χ v w' D' hle' hw' hv
    refine hK _ _ ⟨by simpa using I.size, ⟨k', χ, D'.congr fun j => getD_set_iff (by rw [I.size]; exact hin), Ren.le_trans hle hle', hw', ?_, ?_⟩, ?_, I.out, I.lt⟩
    · rw [(act_put_size _ _ _).2]; exact hm.mono hle'
    · intro t ht j hj hwr
      have hwr' : ∀ (q : Nat) o, ops[q]? = some o → o.dst = some t → ((listed.getD q false = true ∨ q = i) ↔ q < j) := fun q o h1 h2 => by
        rw [← hwr q o h1 h2]
        exact (getD_set_iff (by rw [I.size]; exact hin)).symm
      by_cases hd : x.o.dst = some t
      · have hij : i < j := (hwr' i x.o ho hd).1 (.inr rfl)
        rw [hd, act_put_getD_eq _ _ _ (by rw [I.nt]; exact ht)]
        have : (C.F j).tm.get t = (C.F (i + 1)).tm.get t := by
          refine C.F_const (by omega) hj fun q o' h1 h2 ho' hd' => ?_
          have hl := ((hwr' q o' ho' hd').2 h2).resolve_right (by omega)
          have := (at_text D ho hni haf' (.inl hd) q o' ho' hd').1 hl
          omega
        rw [this, h5, hd, put_get_eq _ _ _ (by rw [n1]; exact ht)]
        exact hv
      · rw [act_put_getD_ne _ _ _ _ hd]
        refine (htm t ht j hj fun q o' ho' hd' => ?_).mono hle'
        rw [← hwr' q o' ho' hd']
        refine ⟨.inl, fun h => h.resolve_right fun e => ?_⟩
        subst e
        rw [ho] at ho'
        obtain rfl := Option.some.inj ho'
        exact hd hd'
    · rw [(act_put_size _ _ _).1]; exact I.nt
  have hless : ∀ (χ : Ren) (t : St) (w' : World), WRel (E.at (C.banL E listed)) χ t w' → WRel (E.at (C.banL E (listed.setIfInBounds i true))) χ t w' := fun χ t w' h => h.lessBan (X := C.banL E (listed.setIfInBounds i true)) fun b hb => by
    rcases hb with hb | ⟨j, y, z, g1, g2, g3⟩
    · exact .inl hb
    · exact .inr ⟨j, y, z, g1, g2, fun h => g3 ((getD_set_iff (by rw [I.size]; exact hin)).2 (.inl h))⟩
  cases hfl : x.fl with
  | some bz =>
    obtain ⟨b, z⟩ := bz
    obtain ⟨e1, e2, e3⟩ := h9 b z hfl
    rw [hfl] at h0
    obtain ⟨_, _, hg, ⟨t, hop, hz⟩, hone⟩ := C.lay.fl i _ _ _ h0
    unfold wpOpIn
    rw [ho]
    dsimp only
    rw [if_pos (by unfold Region.wanted; rw [hg])]
    have he : x.eff P = false := by unfold TR.eff; rw [hfl]; simp
    obtain ⟨zv, hzv, hzr⟩ := zeroCells_rel (E := E) (φ := ψ) hz
    obtain ⟨pm, hpm, hto⟩ := sameRow_spec (D.laid hx hni hfl)
    have hban : C.banL E listed b := .inr ⟨i, x, z, hx, hfl, hni⟩
    obtain ⟨hb1, hb2⟩ := hw.ban b hban
    obtain ⟨hw', hle'⟩ := hw.reveal (X := C.banL E (listed.setIfInBounds i true)) hb1 hb2 hpm hto (cs := zv.cells) hzr t (fun c hc => by
      rcases hc with hc | ⟨j, y, z', g1, g2, g3⟩
      · refine ⟨.inl hc, fun e => ?_⟩
        subst e
        have k1 := (C.lay.fl i _ _ _ h0).1
        have k2 := (I.lt c hc)
        omega
      · refine ⟨.inr ⟨j, y, z', g1, g2, fun h => g3 ((getD_set_iff (by rw [I.size]; exact hin)).2 (.inl h))⟩, fun e => ?_⟩
        subst e
        have h0' := (C.all j y g1).1
        rw [g2] at h0'
        have := C.lay.one j i _ _ _ _ _ h0' h0
        subst this
        exact g3 ((getD_set_iff (by rw [I.size]; exact hin)).2 (.inr rfl)))
    have hnv : (newVar t zv).run P w = .ok ⟨w.heap.size, 0, none⟩ (w.alloc (.cells zv.cells t)) := by
      simp only [newVar, newRow, Sem.run_bind, run_newObj, Result.andThen_ok, Sem.run_pure]
      rfl
    have hrun : (execOp (maskAct a (x.o.looksAt ops)).eval x.o).run P w = .ok (.value (.pointer (some ⟨w.heap.size, 0, none⟩))) (w.alloc (.cells zv.cells t)) := by
      simp [execOp, hop, Instr.alloc, run_zeroOf hzv, hnv]
    refine ⟨about_any _ _ _ _, ?_⟩
    rw [semAt_value_of heval hrun]
    refine behind k _ _ _ (D.add hx haf' he) hle' hw' ?_
    rw [e2]
    exact .ptr (l := ⟨w.heap.size, 0, zv.cells.size, b⟩) (Ren.upd_self _ _ _)
  | none =>
  have h6 := h6 hfl
  have hws := wanted_sound (ops := ops) hA h6
  rw [← hyield] at hws
  unfold wpOpIn
  rw [ho]
  dsimp only
  cases hwt : x.wt with
  | false =>
    rw [hwt] at hws
    rw [if_neg (by rw [hws]; simp)]
    refine ⟨about_any _ _ _ _, ?_⟩
    have he : x.eff P = false := by unfold TR.eff; rw [hwt]; rfl
    refine behind k ψ undef w (D.add hx haf' he) ψ.le_refl (hless _ _ _ hw) ?_
    rw [(h7 hwt).1]
    exact .c _
  | true =>
    rw [hwt] at hws
    rw [if_pos hws]
    cases hc : clsOf P x.o.op with
    | still =>
      have he : x.eff P = false := by unfold TR.eff; rw [hwt, hfl, hc]; rfl
      have hst := D.still hx hni haf' hwt hfl hc
      have hstep : stepD P T rc x.o.op x.fr (C.S k) = some (x.d, C.S k) := by
        unfold stepD
        rw [hc, hst]
        rfl
      exact step_sound (hrc _) (hT _) hN hw hA.eval heval hstep r n K Q fun χ v w' h1 h2 h3 => behind k χ v w' (D.add hx haf' he) h1 (hless _ _ _ h2) h3
    | eff =>
      have he : x.eff P = true := by unfold TR.eff; rw [hwt, hfl, hc]; rfl
      obtain ⟨e1, e2⟩ := D.eff hx hni haf' he
      have hstep := h8 hwt hfl
      rw [← e1] at hstep
      exact step_sound (hrc _) (hT _) hN hw hA.eval heval hstep r n K Q fun χ v w' h1 h2 h3 => behind (i + 1) χ v w' e2 h1 (hless _ _ _ h2) h3
    | call =>
      have he : x.eff P = true := by unfold TR.eff; rw [hwt, hfl, hc]; rfl
      obtain ⟨e1, e2⟩ := D.eff hx hni haf' he
      have hstep := h8 hwt hfl
      rw [← e1] at hstep
      exact step_sound (hrc _) (hT _) hN hw hA.eval heval hstep r n K Q fun χ v w' h1 h2 h3 => behind (i + 1) χ v w' e2 h1 (hless _ _ _ h2) h3

theorem Inv.last {listed : Array Bool} {a : Act} {w : World} (I : C.Inv E φ listed a w) (hall : ∀ j, j < ops.size → listed.getD j false = true) : ∃ ψ, φ.le ψ ∧ WRel E ψ s' w ∧ ARel E ψ fr' a := by
  obtain ⟨k, ψ, D, hle, hw, hm, htm⟩ := I.here
  obtain ⟨n1, n2, n3⟩ := C.F_nt (i := ops.size) (Nat.le_refl _)
  refine ⟨ψ, hle, ?_, ?_⟩
  · rw [← C.sn, C.const' D.le (Nat.le_refl _) fun q h1 h2 hq => ?_]
    · exact hw.lessBan (X := E.ban) fun b hb => .inl hb
    · have := D.done q (hall q h2) hq; omega
  · refine ⟨?_, fun t ht => ?_, fun t ht => ?_, ?_⟩
    · rw [I.nt, ← C.fn, n1]
    · rw [← C.fn] at ht ⊢
      rw [n1] at ht
      refine htm t ht ops.size (Nat.le_refl _) fun i o ho _ => ?_
      have hi := (Array.getElem?_eq_some_iff.1 ho).1
      exact ⟨fun _ => hi, fun _ => hall i hi⟩
    · rw [← C.fn] at ht ⊢
      exact C.F_out I.out (Nat.le_refl _) t (by rw [← n1]; exact ht)
    · rw [← C.fn, n2]; exact hm

/-- No order is without an end. -/
def Ends (md : Region.Mode) (ops : Array Oper) : Prop := ∃ pot : Nat → Nat, ∀ (j : Nat) o, ops[j]? = some o → ∀ e ∈ o.after, Region.binds md e = true → e.on < ops.size ∧ pot e.on < pot j

theorem all_listed {md : Region.Mode} (hp : Ends md ops) {listed : Array Bool} (hs : listed.size = ops.size) (hr : Region.ready md ops listed = []) : ∀ j, j < ops.size → listed.getD j false = true := by
  obtain ⟨pot, hp⟩ := hp
  have key : ∀ (m j : Nat), pot j = m → j < ops.size → listed.getD j false = true := by
    intro m
    induction m using Nat.strongRecOn with
    | _ m ih =>
      intro j hm hj
      by_cases h : listed.getD j false = true
      · exact h
      · exfalso
        have : j ∈ Region.ready md ops listed := mem_ready.2 ⟨getD_ft (by rw [hs]; exact hj) h, ops[j], Array.getElem?_eq_getElem hj, fun e he hb => by
          obtain ⟨h1, h2⟩ := hp j _ (Array.getElem?_eq_getElem hj) e he hb
          exact ih _ (by rw [← hm]; exact h2) e.on rfl h1⟩
        rw [hr] at this
        cases this
  exact fun j hj => key _ j rfl hj

theorem Inv.any (hrc : ∀ X, RecOK (E.at X) P N rc) (hT : ∀ X, TabOK (E.at X) P T) (hN : NoCount P) {md : Region.Mode} (hp : Ends md ops) (r : Option Nat) (n : Nat) (Q : Exit → Act → World → Prop) (hQ : ∀ ψ a' w', φ.le ψ → WRel E ψ s' w' → ARel E ψ fr' a' → Q .normal a' w') :
    ∀ (fuel : Nat) (listed : Array Bool) (a : Act) (w : World) (l : List Nat), l.length ≤ fuel → (∀ j, listed.getD j true = false → j ∈ l) → C.Inv E φ listed a w → wpAnyIn (Fw r) n P md ops Q fuel listed a w
  | 0, listed, a, w, l, hl, hm, I => by
    have hl : l = [] := List.length_eq_zero_iff.1 (by omega)
    subst hl
    have hnil : Region.ready md ops listed = [] := by
      cases hr : Region.ready md ops listed with
      | nil => rfl
      | cons x xs =>
        have := hm x (mem_ready.1 (hr ▸ List.mem_cons_self : x ∈ Region.ready md ops listed)).1
        cases this
    refine ⟨hnil, ?_⟩
    obtain ⟨ψ, h1, h2, h3⟩ := I.last (all_listed hp I.size hnil)
    exact hQ ψ a w h1 h2 h3
  | fuel + 1, listed, a, w, l, hl, hm, I => by
    refine ⟨fun hnil => ?_, fun i hi => ?_⟩
    · obtain ⟨ψ, h1, h2, h3⟩ := I.last (all_listed hp I.size hnil)
      exact hQ ψ a w h1 h2 h3
    · refine I.step hrc hT hN hi r n Q _ fun a' w' I' => ?_
      have hun := (mem_ready.1 hi).1
      have hil := hm i hun
      refine Inv.any hrc hT hN hp r n Q hQ fuel _ a' w' (l.erase i) (by rw [List.length_erase_of_mem hil]; omega) (fun j hj => ?_) I'
      by_cases e : i = j
      · subst e
        have hlt : i < listed.size := by
          rcases Nat.lt_or_ge i listed.size with h' | h'
          · exact h'
          · simp [Array.getElem?_eq_none h'] at hun
        simp [hlt] at hj
      · rw [getD_set_ne true e] at hj
        exact (List.mem_erase_of_ne (fun h => e h.symm)).2 (hm j hj)

end TC

theorem draw_sound (hrc : ∀ X, RecOK (E.at X) P N rc) (hT : ∀ X, TabOK (E.at X) P T) (hN : NoCount P) {id : Nat} {ops : Array Oper} {fr fr' : Fr} {s s' : St} (hok : drawOK ops = true) (h : drawD P T rc ops fr s = some (fr', s')) : CodeSim E P (.region id ops true) fr s .normal fr' s' := by
  obtain ⟨C⟩ := drawD_TC hok h
  obtain ⟨n1, n2, n3⟩ := C.F_nt (i := ops.size) (Nat.le_refl _)
  refine ⟨by rw [← C.fn, n3], fun φ w a r hw ha hro n => ?_⟩
  have D0 : C.Done (fun j => (Array.replicate ops.size false).getD j false = true) 0 := by
    have hno : ∀ j, ¬ (Array.replicate ops.size false).getD j false = true := fun j => by
      simp only [Array.getD_eq_getD_getElem?, Array.getElem?_replicate]
      split <;> simp
    exact ⟨fun j o h => absurd h (hno j), fun j h => absurd h (hno j), Nat.zero_le _, fun i h => absurd h (hno i), fun i h => by omega⟩
  have I : C.Inv E φ (Array.replicate ops.size false) a w.drew := by
    refine ⟨by simp, ⟨0, φ, D0, φ.le_refl, (C.lay.rel E φ _ hw.drew).lessBan (X := C.banL E (Array.replicate ops.size false)) fun b hb => ?_, ha.marks, fun t ht j hj hwr => ?_⟩, ha.size, ha.out, fun b hb => (hw.ban b hb).2⟩
    · rcases hb with hb | ⟨i, x, z, g1, g2, _⟩
      · exact .inl hb
      · have := (C.all i x g1).1
        rw [g2] at this
        exact .inr ⟨i, x.o, z, this⟩
    have : (C.F j).tm.get t = (C.F 0).tm.get t := C.F_const (Nat.zero_le _) hj fun q o h1 h2 ho hd => by
      have := (hwr q o ho hd).2 h2
      simp only [Array.getD_eq_getD_getElem?, Array.getElem?_replicate] at this
      split at this <;> simp at this
    rw [this, C.f0]
    exact ha.tmps t ht
  refine wpIn_region_draw fun t => ?_
  have go : ∀ (md : Region.Mode) (t : Nat), TC.Ends md ops → wpOpsIn (Fw r) n P ops (CPost E φ .normal fr' s') (Region.linearise md ops t) a w.drew := by
    intro md t hp
    refine wpAnyIn_sound ops.size t _ a _ ?_
    refine TC.Inv.any (C := C) hrc hT hN hp r n _ (fun ψ a' w' h1 h2 h3 => ⟨rfl, ψ, h1, h2, h3⟩) ops.size _ a _ (List.range ops.size) (by simp) (fun j hj => ?_) I
    simp only [Array.getD_eq_getD_getElem?, Array.getElem?_replicate] at hj
    split at hj
    · simpa
    · simp at hj
  have htext : TC.Ends .text ops := ⟨fun j => j, fun j o ho e he hb => ⟨(C.ok.edge j o ho e he).1, (C.ok.edge j o ho e he).2.1 hb⟩⟩
  have hany : TC.Ends .any ops := ⟨fun j => j, fun j o ho e he hb => ⟨(C.ok.edge j o ho e he).1, (C.ok.edge j o ho e he).2.1 (binds_any_md hb _)⟩⟩
  show wpOpsIn (Fw r) n P ops _ (Region.schedule _ ops t) a w.drew
  unfold Region.schedule
  split
  · exact go .any t hany
  · rename_i hmx
    have hdep : Region.departs ops = true := by
      cases hd : Region.departs ops with
      | true => rfl
      | false => rw [hd] at hmx; simp at hmx
    split
    · exact go .text _ htext
    · exact go .gc _ ⟨fun j => (Region.linearise .gc ops 0).idxOf j, fun j o ho e he hb => ⟨(C.ok.edge j o ho e he).1, (C.ok.edge j o ho e he).2.2 hdep hb⟩⟩

end Go.Dm
