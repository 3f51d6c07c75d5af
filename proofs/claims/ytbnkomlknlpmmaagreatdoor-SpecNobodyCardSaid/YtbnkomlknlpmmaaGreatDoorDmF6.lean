import Derived.Test.YtbnkomlknlpmmaaGreatDoorDmF5
/-
  The abstract machine: regions that draw their order.
-/
namespace Go.Dm
open Go.RowKit
variable {E : Env} {φ : Ren} {P : Program} {w : World} {T : Tab} {rc : Rec} {N : Nat}

/-- A region's run in the order of the text, checked. -/
structure TC (P : Program) (T : Tab) (rc : Rec) (ops : Array Oper) (fr fr' : Fr) (s s' : St) where
  tr : List TR
  F : Nat → Fr
  S : Nat → St
  l : List (Oper × Option (Nat × List DV))
  lay : Laid P ops.toList l s (S 0)
  len : tr.length = ops.size
  f0 : F 0 = fr
  fn : F ops.size = fr'
  sn : S ops.size = s'
  all : ∀ i x, tr[i]? = some x → l[i]? = some (x.o, x.fl) ∧ x.fr = (F i).mask (x.o.looksAt ops) ∧ x.s = S i ∧ x.s' = S (i + 1) ∧ F (i + 1) = (F i).put x.o.dst x.d ∧ (x.fl = none → wantedD ops x.fr x.o = some x.wt) ∧ (x.wt = false → x.d = undefD ∧ S (i + 1) = S i) ∧
    (x.wt = true → x.fl = none → stepD P T rc x.o.op x.fr (S i) = some (x.d, S (i + 1))) ∧ (∀ b z, x.fl = some (b, z) → x.wt = true ∧ x.d = .ptr b 0 ∧ S (i + 1) = S i)
  chk : checkD P T (Region.before ops) tr.zipIdx = true
  laid : laidD P (Region.before ops) (S 0) tr.zipIdx = true
  ok : DrawOK ops

theorem drawD_TC {ops : Array Oper} {fr fr' : Fr} {s s' : St} (hok : drawOK ops = true) (h : drawD P T rc ops fr s = some (fr', s')) : Nonempty (TC P T rc ops fr fr' s s') := by
  unfold drawD at h
  split at h
  · rename_i l s0 hl
    split at h
    · rename_i tr r ht
      cases hc : (checkD P T (Region.before ops) tr.zipIdx && laidD P (Region.before ops) s0 tr.zipIdx) with
      | false => rw [hc] at h; simp at h
      | true =>
        rw [hc] at h
        simp only [cond_true, Option.some.injEq] at h
        subst h
        rw [Bool.and_eq_true] at hc
        obtain ⟨h1, F, S, f0, s0', fn, sn, hall⟩ := trace_spec ht
        have hL := lay_spec hl
        subst s0'
        have hlen : l.length = ops.size := by simpa using hL.len
        exact ⟨⟨tr, F, S, l, hL, by rw [h1, hlen], f0, by rw [← hlen]; exact fn, by rw [← hlen]; exact sn, hall, hc.1, hc.2, drawOK_spec hok⟩⟩
    · simp at h
  · simp at h

namespace TC
variable {ops : Array Oper} {fr fr' : Fr} {s s' : St} (C : TC P T rc ops fr fr' s s')

theorem at_ (i : Nat) (hi : i < ops.size) : ∃ x, C.tr[i]? = some x := ⟨_, List.getElem?_eq_getElem (by rw [C.len]; exact hi)⟩

theorem lt_of {i : Nat} {x : TR} (h : C.tr[i]? = some x) : i < ops.size := by
  have := (List.getElem?_eq_some_iff.1 h).1
  rw [C.len] at this
  exact this

theorem op_at {i : Nat} {x : TR} (h : C.tr[i]? = some x) : ops[i]? = some x.o := by
  have := C.lay.ops i _ _ (C.all i x h).1
  simpa using this

theorem eff_const {i : Nat} {x : TR} (h : C.tr[i]? = some x) (he : x.eff P = false) : C.S (i + 1) = C.S i := by
  obtain ⟨_, _, _, _, _, _, h1, h2, h3⟩ := C.all i x h
  cases hw : x.wt with
  | false => exact (h1 hw).2
  | true =>
    cases hfl : x.fl with
    | some bz => exact (h3 bz.1 bz.2 hfl).2.2
    | none =>
    have h2 := h2 hw hfl
    unfold TR.eff at he
    rw [hw, hfl] at he
    simp only [Bool.true_and, Option.isNone_none] at he
    unfold stepD at h2
    cases hc : clsOf P x.o.op with
    | still =>
      rw [hc] at h2
      simp only [Option.map_eq_some_iff, Prod.mk.injEq] at h2
      obtain ⟨v, _, _, e⟩ := h2
      exact e.symm
    | eff => rw [hc] at he; simp at he
    | call => rw [hc] at he; simp at he

theorem const_range : ∀ (m a : Nat), a + m ≤ ops.size → (∀ q x, a ≤ q → q < a + m → C.tr[q]? = some x → x.eff P = false) → C.S (a + m) = C.S a
  | 0, a, _, _ => rfl
  | m + 1, a, hm, h => by
    obtain ⟨x, hx⟩ := C.at_ (a + m) (by omega)
    rw [← Nat.add_assoc, C.eff_const hx (h _ _ (by omega) (by omega) hx)]
    exact const_range m a (by omega) fun q y h1 h2 hy => h q y h1 (by omega) hy

theorem const {a b : Nat} (hab : a ≤ b) (hb : b ≤ ops.size) (h : ∀ q x, a ≤ q → q < b → C.tr[q]? = some x → x.eff P = false) : C.S b = C.S a := by
  have := C.const_range (b - a) a (by omega) fun q x h1 h2 hx => h q x h1 (by omega) hx
  rw [show a + (b - a) = b by omega] at this
  exact this

theorem mem_zip {i : Nat} {x : TR} (h : C.tr[i]? = some x) : (x, i) ∈ C.tr.zipIdx := by
  rw [List.mem_zipIdx_iff_getElem?]; exact h

theorem chk_eff {i k : Nat} {x y : TR} (hx : C.tr[i]? = some x) (hy : C.tr[k]? = some y) (ex : x.eff P = true) (ey : y.eff P = true) (hik : i < k) : ((Region.before ops).getD k 0).testBit i = true := by
  have h := C.chk
  unfold checkD at h
  simp only [List.all_eq_true, Bool.and_eq_true, List.mem_filter] at h
  have h1 := (h (y, k) ⟨C.mem_zip hy, ey⟩).1 (x, i) ⟨C.mem_zip hx, ex⟩
  simp only [Bool.or_eq_true] at h1
  rcases h1 with h1 | h1
  · have := Nat.le_of_ble_eq_true h1; omega
  · exact h1

theorem chk_loose {i k : Nat} {x y : TR} (hx : C.tr[i]? = some x) (hy : C.tr[k]? = some y) (ex : x.loose P = true) (ey : y.eff P = true) :
    (k < i → ((Region.before ops).getD i 0).testBit k = true ∨ x.sameAt P T (C.S k) = true) ∧ (¬ k < i → ((Region.before ops).getD k 0).testBit i = true ∨ x.sameAt P T (C.S (k + 1)) = true) := by
  have h := C.chk
  unfold checkD at h
  simp only [List.all_eq_true, Bool.and_eq_true, List.mem_filter] at h
  have h1 := (h (y, k) ⟨C.mem_zip hy, ey⟩).2 (x, i) ⟨C.mem_zip hx, ex⟩
  have hs : y.s = C.S k := (C.all k y hy).2.2.1
  have hs' : y.s' = C.S (k + 1) := (C.all k y hy).2.2.2.1
  simp only [hs, hs'] at h1
  refine ⟨fun hk => ?_, fun hk => ?_⟩
  · rw [show Nat.blt k i = true by simpa [Nat.blt_eq] using hk] at h1
    simpa using h1
  · rw [show Nat.blt k i = false by rw [Bool.eq_false_iff]; simpa [Nat.blt_eq] using hk] at h1
    simpa using h1

/-- The first place with a property. -/
theorem first_of (p : Nat → Prop) : ∀ (m a : Nat), (∀ q, a ≤ q → q < a + m → ¬ p q) ∨ ∃ q, a ≤ q ∧ q < a + m ∧ p q ∧ ∀ q', a ≤ q' → q' < q → ¬ p q'
  | 0, a => .inl fun q h1 h2 => by omega
  | m + 1, a => by
    rcases first_of p m a with h | ⟨q, h1, h2, h3, h4⟩
    · by_cases hp : p (a + m)
      · exact .inr ⟨a + m, by omega, by omega, hp, fun q' h1 h2 => h q' h1 h2⟩
      · left
        intro q h1 h2
        by_cases e : q = a + m
        · subst e; exact hp
        · exact h q h1 (by omega)
    · exact .inr ⟨q, h1, by omega, h3, h4⟩

theorem last_of (p : Nat → Prop) : ∀ (m a : Nat), (∀ q, a ≤ q → q < a + m → ¬ p q) ∨ ∃ q, a ≤ q ∧ q < a + m ∧ p q ∧ ∀ q', q < q' → q' < a + m → ¬ p q'
  | 0, a => .inl fun q h1 h2 => by omega
  | m + 1, a => by
    by_cases hp : p (a + m)
    · exact .inr ⟨a + m, by omega, by omega, hp, fun q' h1 h2 => by omega⟩
    · rcases last_of p m a with h | ⟨q, h1, h2, h3, h4⟩
      · left
        intro q h1 h2
        by_cases e : q = a + m
        · subst e; exact hp
        · exact h q h1 (by omega)
      · refine .inr ⟨q, h1, by omega, h3, fun q' g1 g2 => ?_⟩
        by_cases e : q' = a + m
        · subst e; exact hp
        · exact h4 q' g1 (by omega)

def IsEff (i : Nat) : Prop := ∃ x, C.tr[i]? = some x ∧ x.eff P = true

theorem const' {a b : Nat} (hab : a ≤ b) (hb : b ≤ ops.size) (h : ∀ q, a ≤ q → q < b → ¬ C.IsEff q) : C.S b = C.S a :=
  C.const hab hb fun q x h1 h2 hx => by
    cases he : x.eff P with
    | false => rfl
    | true => exact absurd ⟨x, hx, he⟩ (h q h1 h2)

/-- What a run in another order has done: the operations listed, of which each has all listed that it must come behind. -/
structure Done (L : Nat → Prop) (k : Nat) : Prop where
  closed : ∀ (j : Nat) o, L j → ops[j]? = some o → ∀ e ∈ o.after, Region.binds .any e = true → L e.on
  lt : ∀ j, L j → j < ops.size
  le : k ≤ ops.size
  done : ∀ i, L i → C.IsEff i → i < k
  all : ∀ i, i < k → C.IsEff i → L i

variable {C}

theorem Done.bit {L : Nat → Prop} {k : Nat} (D : C.Done L k) {i j : Nat} {o : Oper} (ho : ops[i]? = some o) (hi : ∀ e ∈ o.after, Region.binds .any e = true → L e.on) (hb : ((Region.before ops).getD i 0).testBit j = true) : L j :=
  C.ok.bit_listed D.closed ho hi hb

/-- One that is listed has all listed that is ahead of it. -/
theorem Done.bit_of {L : Nat → Prop} {k : Nat} (D : C.Done L k) {i j : Nat} (hi : L i) (hb : ((Region.before ops).getD i 0).testBit j = true) : L j := by
  have hlt := D.lt i hi
  exact D.bit (Array.getElem?_eq_getElem hlt) (D.closed i _ hi (Array.getElem?_eq_getElem hlt)) hb

theorem Done.still {L : Nat → Prop} {k : Nat} (D : C.Done L k) {i : Nat} {x : TR} (hx : C.tr[i]? = some x) (hni : ¬ L i) (hi : ∀ e ∈ x.o.after, Region.binds .any e = true → L e.on) (hw : x.wt = true) (hfl : x.fl = none) (hc : clsOf P x.o.op = .still) :
    stillOp P T x.o.op x.fr.eval (C.S k) = some x.d := by
  obtain ⟨_, _, _, _, _, _, _, h2, _⟩ := C.all i x hx
  have ho := C.op_at hx
  have h2 := h2 hw hfl
  unfold stepD at h2
  rw [hc] at h2
  simp only [Option.map_eq_some_iff, Prod.mk.injEq] at h2
  obtain ⟨v, hv, rfl, _⟩ := h2
  have hin := C.lt_of hx
  have hne : x.eff P = false := by unfold TR.eff; rw [hw, hfl, hc]; rfl
  cases hp : pureOp P x.o.op x.fr.eval with
  | some v =>
    unfold stillOp at hv ⊢
    rw [hp] at hv ⊢
    exact hv
  | none =>
    have hl : x.loose P = true := by unfold TR.loose; rw [hw, hfl, hc, hp]; rfl
    have same : ∀ {s0 : St}, x.sameAt P T s0 = true → stillOp P T x.o.op x.fr.eval s0 = some x.d := by
      intro s0 hs
      unfold TR.sameAt at hs
      split at hs
      · rename_i u hu; rw [hu, sameD_eq hs]
      · simp at hs
    rcases Nat.le_total k i with hki | hki
    · rcases first_of C.IsEff (i - k) k with hno | ⟨q, q1, q2, q3, q4⟩
      · rw [← C.const' hki (by omega) fun q h1 h2 => hno q h1 (by omega)]
        exact hv
      · obtain ⟨y, hy, ey⟩ := q3
        have hnq : ¬ L q := fun h => by have := D.done q h ⟨y, hy, ey⟩; omega
        have := (C.chk_loose hx hy hl ey).1 (by omega)
        rcases this with h | h
        · exact absurd (D.bit ho hi h) hnq
        · rw [← C.const' q1 (by omega) fun q' h1 h2 => q4 q' h1 h2]
          exact same h
    · rcases last_of C.IsEff (k - i) i with hno | ⟨q, q1, q2, q3, q4⟩
      · rw [C.const' hki D.le fun q h1 h2 => hno q h1 (by omega)]
        exact hv
      · obtain ⟨y, hy, ey⟩ := q3
        have hlq : L q := D.all q (by omega) ⟨y, hy, ey⟩
        have := (C.chk_loose hx hy hl ey).2 (by omega)
        rcases this with h | h
        · exact absurd (D.bit_of hlq h) hni
        · have e : C.S k = C.S (q + 1) := C.const' (by omega) D.le fun q' h1 h2 => q4 q' (by omega) (by omega)
          rw [e]
          exact same h

theorem Done.eff {L : Nat → Prop} {k : Nat} (D : C.Done L k) {i : Nat} {x : TR} (hx : C.tr[i]? = some x) (hni : ¬ L i) (hi : ∀ e ∈ x.o.after, Region.binds .any e = true → L e.on) (he : x.eff P = true) :
    C.S k = C.S i ∧ C.Done (fun j => L j ∨ j = i) (i + 1) := by
  have ho := C.op_at hx
  have hin := C.lt_of hx
  have hki : k ≤ i := by
    rcases Nat.lt_or_ge i k with h | h
    · exact absurd (D.all i h ⟨x, hx, he⟩) hni
    · exact h
  have hbef : ∀ q, q < i → C.IsEff q → L q := by
    rintro q hq ⟨y, hy, ey⟩
    exact D.bit ho hi (C.chk_eff hy hx ey he hq)
  refine ⟨(C.const' hki (by omega) fun q h1 h2 hq => ?_).symm, ⟨?_, ?_, by omega, ?_, ?_⟩⟩
  · have := D.done q (hbef q h2 hq) hq; omega
  · rintro j o (hj | rfl) hjo e hee hb
    · exact .inl (D.closed j o hj hjo e hee hb)
    · rw [ho] at hjo
      obtain rfl := Option.some.inj hjo
      exact .inl (hi e hee hb)
  · rintro j (hj | rfl)
    · exact D.lt j hj
    · exact hin
  · rintro j (hj | rfl) hje
    · have := D.done j hj hje; omega
    · omega
  · intro j hj hje
    by_cases e : j = i
    · exact .inr e
    · exact .inl (hbef j (by omega) hje)

theorem Done.add {L : Nat → Prop} {k : Nat} (D : C.Done L k) {i : Nat} {x : TR} (hx : C.tr[i]? = some x) (hi : ∀ e ∈ x.o.after, Region.binds .any e = true → L e.on) (he : x.eff P = false) : C.Done (fun j => L j ∨ j = i) k := by
  have ho := C.op_at hx
  have hin := C.lt_of hx
  have hne : ¬ C.IsEff i := by rintro ⟨y, hy, ey⟩; rw [hx] at hy; obtain rfl := Option.some.inj hy; rw [he] at ey; cases ey
  refine ⟨?_, ?_, D.le, ?_, fun j hj hje => .inl (D.all j hj hje)⟩
  · rintro j o (hj | rfl) hjo e hee hb
    · exact .inl (D.closed j o hj hjo e hee hb)
    · rw [ho] at hjo
      obtain rfl := Option.some.inj hjo
      exact .inl (hi e hee hb)
  · rintro j (hj | rfl)
    · exact D.lt j hj
    · exact hin
  · rintro j (hj | rfl) hje
    · exact D.done j hj hje
    · exact absurd hje hne

theorem sameRow_spec {s : St} {b : Nat} {z : List DV} (h : sameRow s b z = true) : ∃ pm, s.heap.get b = some (.cells pm z.length b) ∧ pm.toL 0 z.length = some z := by
  unfold sameRow at h
  split at h
  · rename_i pm n f hb
    simp only [Bool.and_eq_true] at h
    obtain ⟨⟨h1, h2⟩, h3⟩ := h
    have h1 := Nat.eq_of_beq_eq_true h1
    have h2 := Nat.eq_of_beq_eq_true h2
    subst h1; subst h2
    split at h3
    · rename_i l hl
      have e := sameDs_eq h3
      subst e
      exact ⟨pm, hb, hl⟩
    · simp at h3
  · simp at h

/-- What is laid ahead, and not yet made, is as it was laid. -/
theorem Done.laid {L : Nat → Prop} {k : Nat} (D : C.Done L k) {i : Nat} {x : TR} (hx : C.tr[i]? = some x) (hni : ¬ L i) {b : Nat} {z : List DV} (hfl : x.fl = some (b, z)) : sameRow (C.S k) b z = true := by
  have h := C.laid
  unfold laidD at h
  rw [List.all_eq_true] at h
  have h1 := h (x, i) (C.mem_zip hx)
  simp only [hfl, Bool.and_eq_true, List.all_eq_true, List.mem_filter, Bool.or_eq_true] at h1
  rcases last_of C.IsEff k 0 with hno | ⟨q, q1, q2, q3, q4⟩
  · rw [C.const' (Nat.zero_le k) D.le fun q h1 h2 => hno q h1 (by omega)]
    exact h1.1
  · obtain ⟨y, hy, ey⟩ := q3
    have hlq : L q := D.all q (by omega) ⟨y, hy, ey⟩
    have := h1.2 (y, q) ⟨C.mem_zip hy, ey⟩
    rcases this with h2 | h2
    · exact absurd (D.bit_of hlq h2) hni
    · rw [C.const' (show q + 1 ≤ k by omega) D.le fun q' g1 g2 => q4 q' (by omega) (by omega)]
      rw [(C.all q y hy).2.2.2.1] at h2
      exact h2

end TC
end Go.Dm
