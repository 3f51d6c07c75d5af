import Derived.Test.YtbnkomlknlpmmaaGreatDoorDmF4
/-
  The abstract machine: regions that draw their order: the plain part.
-/
namespace Go.Dm
open Go.RowKit
variable {E : Env} {φ : Ren} {P : Program} {s : St} {w : World} {T : Tab} {rc : Rec} {N : Nat}

/-! ### What is ahead of what -/
def gBef (acc : Array Nat) (o : Oper) : Nat := o.after.foldl (fun s e => if Region.binds .any e then s ||| 2 ^ e.on ||| acc.getD e.on 0 else s) 0

theorem before_eq (ops : Array Oper) : Region.before ops = ops.toList.foldl (fun acc o => acc.push (gBef acc o)) #[] := by
  unfold Region.before
  rw [← Array.foldl_toList]
  rfl

theorem before_fold : ∀ (l : List Oper) (acc : Array Nat), (l.foldl (fun acc o => acc.push (gBef acc o)) acc).size = acc.size + l.length ∧
    (∀ j, j < acc.size → (l.foldl (fun acc o => acc.push (gBef acc o)) acc)[j]? = acc[j]?) ∧
    ∀ i o, l[i]? = some o → ∃ acc' : Array Nat, acc'.size = acc.size + i ∧ (∀ j, j < acc.size + i → acc'[j]? = (l.foldl (fun acc o => acc.push (gBef acc o)) acc)[j]?) ∧ (l.foldl (fun acc o => acc.push (gBef acc o)) acc)[acc.size + i]? = some (gBef acc' o)
  | [], acc => ⟨by simp, fun _ _ => rfl, fun i o h => by simp at h⟩
  | x :: l, acc => by
    obtain ⟨h1, h2, h3⟩ := before_fold l (acc.push (gBef acc x))
    simp only [List.foldl_cons, List.length_cons]
    simp only [Array.size_push] at h1 h2 h3
    refine ⟨by omega, fun j hj => ?_, fun i o ho => ?_⟩
    · rw [h2 j (by omega), Array.getElem?_push, if_neg (by omega)]
    · cases i with
      | zero =>
        simp only [List.getElem?_cons_zero, Option.some.injEq] at ho
        subst ho
        refine ⟨acc, by simp, fun j hj => ?_, ?_⟩
        · rw [h2 j (by omega), Array.getElem?_push, if_neg (by omega)]
        · rw [Nat.add_zero, h2 _ (by omega), Array.getElem?_push, if_pos rfl]
      | succ i =>
        simp only [List.getElem?_cons_succ] at ho
        obtain ⟨acc', g1, g2, g3⟩ := h3 i o ho
        refine ⟨acc', by omega, fun j hj => g2 j (by omega), ?_⟩
        rw [show acc.size + (i + 1) = acc.size + 1 + i by omega]
        exact g3

theorem gBef_bit {acc : Array Nat} {o : Oper} {k : Nat} (h : (gBef acc o).testBit k = true) : ∃ e ∈ o.after, Region.binds .any e = true ∧ (e.on = k ∨ (acc.getD e.on 0).testBit k = true) := by
  have key : ∀ (l : List Edge) (s0 : Nat), (l.foldl (fun s e => if Region.binds .any e then s ||| 2 ^ e.on ||| acc.getD e.on 0 else s) s0).testBit k = true → s0.testBit k = true ∨ ∃ e ∈ l, Region.binds .any e = true ∧ (e.on = k ∨ (acc.getD e.on 0).testBit k = true) := by
    intro l
    induction l with
    | nil => intro s0 h; exact .inl h
    | cons e l ih =>
      intro s0 h
      simp only [List.foldl_cons] at h
      rcases ih _ h with h' | ⟨e', he', h'⟩
      · by_cases hb : Region.binds .any e = true
        · rw [if_pos hb] at h'
          simp only [Nat.testBit_or, Bool.or_eq_true, Nat.testBit_two_pow, decide_eq_true_eq] at h'
          rcases h' with (h' | h') | h'
          · exact .inl h'
          · exact .inr ⟨e, by simp, hb, .inl h'⟩
          · exact .inr ⟨e, by simp, hb, .inr h'⟩
        · rw [if_neg hb] at h'
          exact .inl h'
      · exact .inr ⟨e', by simp [he'], h'⟩
  unfold gBef at h
  rw [← Array.foldl_toList] at h
  rcases key o.after.toList 0 h with h' | ⟨e, he, h'⟩
  · simp at h'
  · exact ⟨e, by simpa using he, h'⟩

theorem before_bit {ops : Array Oper} {i k : Nat} (h : ((Region.before ops).getD i 0).testBit k = true) : ∃ o, ops[i]? = some o ∧ ∃ e ∈ o.after, Region.binds .any e = true ∧ (e.on = k ∨ (e.on < i ∧ ((Region.before ops).getD e.on 0).testBit k = true)) := by
  rw [before_eq] at h ⊢
  obtain ⟨h1, _, h3⟩ := before_fold ops.toList #[]
  simp only [List.size_toArray, List.length_nil, Nat.zero_add, Array.length_toList] at h1 h3
  cases ho : ops[i]? with
  | none =>
    have : ops.size ≤ i := by simpa using ho
    rw [Array.getD_eq_getD_getElem?, Array.getElem?_eq_none (by omega)] at h
    simp at h
  | some o =>
    obtain ⟨acc', g1, g2, g3⟩ := h3 i o (by simpa using ho)
    rw [Array.getD_eq_getD_getElem?, g3] at h
    simp only [Option.getD_some] at h
    obtain ⟨e, he, hb, hk⟩ := gBef_bit h
    refine ⟨o, rfl, e, he, hb, ?_⟩
    rcases hk with hk | hk
    · exact .inl hk
    · right
      by_cases hlt : e.on < i
      · refine ⟨hlt, ?_⟩
        rw [Array.getD_eq_getD_getElem?, ← g2 _ hlt, ← Array.getD_eq_getD_getElem?]
        exact hk
      · rw [Array.getD_eq_getD_getElem?, Array.getElem?_eq_none (by omega)] at hk
        simp at hk

/-- What a region that may draw its order is like. -/
structure DrawOK (ops : Array Oper) : Prop where
  edge : ∀ (j : Nat) o, ops[j]? = some o → ∀ e ∈ o.after, e.on < ops.size ∧ (Region.binds .text e = true → e.on < j) ∧ (Region.departs ops = true → Region.binds .gc e = true → (Region.linearise .gc ops 0).idxOf e.on < (Region.linearise .gc ops 0).idxOf j)
  tmp : ∀ (j : Nat) o, ops[j]? = some o → ∀ t, (o.dst = some t ∨ t ∈ o.looksAt ops) → ∀ (i : Nat) o', ops[i]? = some o' → o'.dst = some t → i = j ∨ ((Region.before ops).getD j 0).testBit i = true ∨ ((Region.before ops).getD i 0).testBit j = true

theorem drawOK_spec {ops : Array Oper} (h : drawOK ops = true) : DrawOK ops := by
  unfold drawOK at h
  simp only [List.all_eq_true, Bool.and_eq_true] at h
  have hz : ∀ (j : Nat) o, ops[j]? = some o → (o, j) ∈ ops.toList.zipIdx := by
    intro j o ho
    rw [List.mem_zipIdx_iff_getElem?]
    simpa using ho
  refine ⟨fun j o ho e he => ?_, fun j o ho t ht i o' ho' hd => ?_⟩
  · have h1 := (h (o, j) (hz j o ho)).1 e (by simpa using he)
    obtain ⟨⟨a1, a2⟩, a3⟩ := h1
    refine ⟨by simpa [Nat.blt_eq] using a1, fun hb => ?_, fun hd hb => ?_⟩
    · unfold Region.binds at hb
      cases hg : e.ground <;> rw [hg] at hb a2 <;> simp_all [Nat.blt_eq]
    · rw [hd, hb] at a3
      simpa [Nat.blt_eq] using a3
  · have h2 := (h (o, j) (hz j o ho)).2 t (by
      rcases ht with ht | ht
      · simp [ht]
      · simp [ht]) (t, i) (by
      rw [List.mem_filterMap]
      exact ⟨(o', i), hz i o' ho', by simp [hd]⟩)
    simp only [PM.beqd, decide_true, Bool.not_true, Bool.false_or, Bool.or_eq_true, decide_eq_true_eq] at h2
    rcases h2 with (h2 | h2) | h2
    · exact .inl h2
    · exact .inr (.inl h2)
    · exact .inr (.inr h2)

theorem binds_any_md {e : Edge} (h : Region.binds .any e = true) (md : Region.Mode) : Region.binds md e = true := by
  unfold Region.binds at *
  cases hg : e.ground <;> rw [hg] at h <;> simp_all

theorem DrawOK.bit_lt {ops : Array Oper} (h : DrawOK ops) : ∀ {i k : Nat}, ((Region.before ops).getD i 0).testBit k = true → k < i := by
  intro i
  induction i using Nat.strongRecOn with
  | _ i ih =>
    intro k hk
    obtain ⟨o, ho, e, he, hb, hk⟩ := before_bit hk
    have he' := (h.edge i o ho e he).2.1 (binds_any_md hb _)
    rcases hk with rfl | ⟨hlt, hk⟩
    · exact he'
    · have := ih _ hlt hk; omega

theorem DrawOK.bit_listed {ops : Array Oper} (h : DrawOK ops) {L : Nat → Prop} (hL : ∀ (j : Nat) o, L j → ops[j]? = some o → ∀ e ∈ o.after, Region.binds .any e = true → L e.on) :
    ∀ {i k : Nat} {o : Oper}, ops[i]? = some o → (∀ e ∈ o.after, Region.binds .any e = true → L e.on) → ((Region.before ops).getD i 0).testBit k = true → L k := by
  intro i
  induction i using Nat.strongRecOn with
  | _ i ih =>
    intro k o ho hi hk
    obtain ⟨o', ho', e, he, hb, hk⟩ := before_bit hk
    rw [ho] at ho'
    obtain rfl := Option.some.inj ho'
    rcases hk with rfl | ⟨hlt, hk⟩
    · exact hi e he hb
    · have hon := (h.edge i o ho e he).1
      have hget : ops[e.on]? = some ops[e.on] := Array.getElem?_eq_getElem hon
      exact ih e.on hlt hget (fun e' he' hb' => hL e.on _ (hi e he hb) hget e' he' hb') hk

/-! ### Two values that are found the same -/
mutual
theorem sameV_eq : ∀ {a b : Value}, sameV a b = true → a = b := by
  intro a b h
  cases a <;> cases b <;> simp only [sameV, Bool.and_eq_true, decide_eq_true_eq, beq_iff_eq, reduceCtorEq] at h
  case bool.bool => rw [h]
  case int.int => rw [h.1, h.2]
  case string.string x y =>
    obtain ⟨x⟩ := x; obtain ⟨y⟩ := y
    have : x = y := Array.ext' h
    rw [this]
  case pointer.pointer => rw [h]
  case slice.slice => rw [h.1.1, Nat.eq_of_beq_eq_true h.1.2, Nat.eq_of_beq_eq_true h.2]
  case map.map => rw [h]
  case func.func => rw [h.1.1, Array.ext' (sameVs_eq h.1.2), Array.ext' (sameVs_eq h.2)]
  case nilFunc.nilFunc => rfl
  case iface.iface => rw [Nat.eq_of_beq_eq_true h.1, sameV_eq h.2]
  case nilIface.nilIface => rfl
  case agg.agg => rw [Array.ext' (sameVs_eq h)]
  case tuple.tuple => rw [Array.ext' (sameVs_eq h)]
theorem sameVs_eq : ∀ {a b : List Value}, sameVs a b = true → a = b
  | [], [], _ => rfl
  | x :: xs, y :: ys, h => by
    simp only [sameVs, Bool.and_eq_true] at h
    rw [sameV_eq h.1, sameVs_eq h.2]
  | [], _ :: _, h => by simp [sameVs] at h
  | _ :: _, [], h => by simp [sameVs] at h
end

mutual
theorem sameD_eq : ∀ {a b : DV}, sameD a b = true → a = b := by
  intro a b h
  cases a <;> cases b <;> simp only [sameD, Bool.and_eq_true, decide_eq_true_eq, beq_iff_eq, reduceCtorEq] at h
  case c.c => rw [sameV_eq h]
  case sym.sym => rw [Nat.eq_of_beq_eq_true h]
  case ptr.ptr => rw [Nat.eq_of_beq_eq_true h.1, Nat.eq_of_beq_eq_true h.2]
  case slice.slice =>
    obtain ⟨⟨⟨⟨⟨h1, h2⟩, h3⟩, h4⟩, h5⟩, h6⟩ := h
    rw [Nat.eq_of_beq_eq_true h1, Nat.eq_of_beq_eq_true h2, Nat.eq_of_beq_eq_true h3, Nat.eq_of_beq_eq_true h4, h5, Nat.eq_of_beq_eq_true h6]
  case map.map => rw [Nat.eq_of_beq_eq_true h]
  case iter.iter => rw [Nat.eq_of_beq_eq_true h]
  case yieldv.yieldv => rw [Nat.eq_of_beq_eq_true h]
  case func.func => rw [h.1.1, sameDs_eq h.1.2, sameDs_eq h.2]
  case iface.iface => rw [Nat.eq_of_beq_eq_true h.1, sameD_eq h.2]
  case agg.agg => rw [sameDs_eq h]
  case tup.tup => rw [sameDs_eq h]
theorem sameDs_eq : ∀ {a b : List DV}, sameDs a b = true → a = b
  | [], [], _ => rfl
  | x :: xs, y :: ys, h => by
    simp only [sameDs, Bool.and_eq_true] at h
    rw [sameD_eq h.1, sameDs_eq h.2]
  | [], _ :: _, h => by simp [sameDs] at h
  | _ :: _, [], h => by simp [sameDs] at h
end

/-! ### The run in the order of the text -/
theorem trace_spec {ops : Array Oper} : ∀ {l : List (Oper × Option (Nat × List DV))} {fr fr' : Fr} {s s' : St} {tr : List TR}, traceD P T rc ops l fr s = some (tr, fr', s') → tr.length = l.length ∧ ∃ (F : Nat → Fr) (S : Nat → St), F 0 = fr ∧ S 0 = s ∧ F l.length = fr' ∧ S l.length = s' ∧
    ∀ i x, tr[i]? = some x → l[i]? = some (x.o, x.fl) ∧ x.fr = (F i).mask (x.o.looksAt ops) ∧ x.s = S i ∧ x.s' = S (i + 1) ∧ F (i + 1) = (F i).put x.o.dst x.d ∧ (x.fl = none → wantedD ops x.fr x.o = some x.wt) ∧ (x.wt = false → x.d = undefD ∧ S (i + 1) = S i) ∧
      (x.wt = true → x.fl = none → stepD P T rc x.o.op x.fr (S i) = some (x.d, S (i + 1))) ∧ (∀ b z, x.fl = some (b, z) → x.wt = true ∧ x.d = .ptr b 0 ∧ S (i + 1) = S i)
  | [], fr, fr', s, s', tr, h => by
    simp only [traceD, Option.some.injEq, Prod.mk.injEq] at h
    obtain ⟨rfl, rfl, rfl⟩ := h
    exact ⟨rfl, fun _ => fr, fun _ => s, rfl, rfl, rfl, rfl, fun i x hx => by simp at hx⟩
  | (o, some (b, z)) :: l, fr, fr', s, s', tr, h => by
    unfold traceD at h
    simp only [Option.map_eq_some_iff, Prod.mk.injEq, Prod.exists] at h
    obtain ⟨tr', fr1, s1, ht, rfl, rfl, rfl⟩ := h
    obtain ⟨h1, F, S, f0, s0, fn, sn, hall⟩ := trace_spec ht
    refine ⟨by simp [h1], fun i => match i with | 0 => fr | i + 1 => F i, fun i => match i with | 0 => s | i + 1 => S i, rfl, rfl, fn, sn, fun i x hx => ?_⟩
    cases i with
    | zero =>
      simp only [List.getElem?_cons_zero, Option.some.injEq] at hx
      subst hx
      exact ⟨rfl, rfl, rfl, s0.symm, f0, (fun e => by cases e), (fun e => by cases e), (fun _ e => by cases e), fun b' z' e => by
        simp only [Option.some.injEq, Prod.mk.injEq] at e
        obtain ⟨rfl, rfl⟩ := e
        exact ⟨rfl, rfl, s0⟩⟩
    | succ i => exact hall i x (by simpa using hx)
  | (o, none) :: l, fr, fr', s, s', tr, h => by
    unfold traceD at h
    dsimp only at h
    split at h
    · simp at h
    · rename_i hwd
      simp only [Option.map_eq_some_iff, Prod.mk.injEq, Prod.exists] at h
      obtain ⟨tr', fr1, s1, ht, rfl, rfl, rfl⟩ := h
      obtain ⟨h1, F, S, f0, s0, fn, sn, hall⟩ := trace_spec ht
      refine ⟨by simp [h1], fun i => match i with | 0 => fr | i + 1 => F i, fun i => match i with | 0 => s | i + 1 => S i, rfl, rfl, fn, sn, fun i x hx => ?_⟩
      cases i with
      | zero =>
        simp only [List.getElem?_cons_zero, Option.some.injEq] at hx
        subst hx
        exact ⟨rfl, rfl, rfl, s0.symm, f0, fun _ => hwd, fun _ => ⟨rfl, s0⟩, (fun e => by cases e), fun _ _ e => by cases e⟩
      | succ i => exact hall i x (by simpa using hx)
    · rename_i hwd
      split at h
      · simp at h
      · rename_i d s2 hst
        simp only [Option.map_eq_some_iff, Prod.mk.injEq, Prod.exists] at h
        obtain ⟨tr', fr1, s1, ht, rfl, rfl, rfl⟩ := h
        obtain ⟨h1, F, S, f0, s0, fn, sn, hall⟩ := trace_spec ht
        refine ⟨by simp [h1], fun i => match i with | 0 => fr | i + 1 => F i, fun i => match i with | 0 => s | i + 1 => S i, rfl, rfl, fn, sn, fun i x hx => ?_⟩
        cases i with
        | zero =>
          simp only [List.getElem?_cons_zero, Option.some.injEq] at hx
          subst hx
          refine ⟨rfl, rfl, rfl, s0.symm, f0, fun _ => hwd, (fun e => by cases e), fun _ _ => ?_, fun _ _ e => by cases e⟩
          show stepD P T rc o.op _ s = some (d, S 0)
          rw [s0]; exact hst
        | succ i => exact hall i x (by simpa using hx)

/-! ### What is laid ahead -/
/-- The same, with other blocks that are not yet there. -/
abbrev _root_.Go.Dm.Env.at (E : Env) (ban : Nat → Prop) : Env := { E with ban := ban }

theorem MRel.ban {X : Nat → Prop} : ∀ {es : List (Value × DV × Nat)} {fs : List MapEntry}, MRel E φ es fs → MRel (E.at X) φ es fs
  | _, _, .nil => .nil
  | _, _, .cons h r => .cons h (MRel.ban r)

theorem ORel.ban {X : Nat → Prop} {o : DObj} {l : Loc} {w : World} (h : ORel E φ o l w) : ORel (E.at X) φ o l w := by
  cases o with
  | cells pm n f => exact h
  | dead f => trivial
  | map es clock => obtain ⟨fs, h1, h2⟩ := h; exact ⟨fs, h1, h2.ban⟩
  | siter s pos => exact h
  | defd => exact h
  | loop L => obtain ⟨M, h1, h2⟩ := h; exact ⟨M, h1, ⟨h2.state, h2.pending, h2.size, h2.tmps, h2.out, h2.params, h2.assign, h2.body, h2.defers⟩⟩

theorem WRel.lessBan {X : Nat → Prop} (h : WRel E φ s w) (hX : ∀ b, X b → E.ban b) : WRel (E.at X) φ s w :=
  ⟨h.lt, h.inj, h.fam, fun b o l h1 h2 => (h.obj b o l h1 h2).ban, h.live, h.hlt, h.flt, h.mem, h.below, fun b hb => h.ban b (hX b hb)⟩

theorem ARel.ban {X : Nat → Prop} {fr : Fr} {a : Act} (h : ARel E φ fr a) : ARel (E.at X) φ fr a := ⟨h.size, h.tmps, h.out, h.marks⟩
theorem ARel.unban {X : Nat → Prop} {fr : Fr} {a : Act} (h : ARel (E.at X) φ fr a) : ARel E φ fr a := ⟨h.size, h.tmps, h.out, h.marks⟩

theorem WRel.ghost (h : WRel E φ s w) (z : List DV) : WRel (E.at fun c => E.ban c ∨ c = s.next) φ (s.newRow z).2 w := by
  have hget : ∀ b o, (s.newRow z).2.heap.get b = some o → (b = s.next ∧ o = .cells (PM.nil.ofList 0 z) z.length s.next) ∨ (b ≠ s.next ∧ s.heap.get b = some o) := by
    intro b o hb
    have hb' : (s.heap.set s.next (.cells (PM.nil.ofList 0 z) z.length s.next)).get b = some o := hb
    rw [PM.get_set] at hb'
    split at hb'
    · rename_i e; exact .inl ⟨e, by simpa using hb'.symm⟩
    · rename_i e; exact .inr ⟨e, hb'⟩
  have hset : ∀ b o, s.heap.get b = some o → (s.newRow z).2.heap.get b = some o := by
    intro b o hb
    show (s.heap.set s.next _).get b = some o
    rw [PM.get_set_ne _ _ (Nat.ne_of_lt (h.hlt b o hb).1)]
    exact hb
  refine ⟨fun b l hb => ⟨Nat.lt_succ_of_lt (h.lt b l hb).1, (h.lt b l hb).2⟩, h.inj, fun b o l hb hl => ?_, fun b o l hb hl => ?_, fun b o hb ho => ?_, fun b o hb => ?_, fun f ms hf => Nat.lt_succ_of_lt (h.flt f ms hf), fun f ms hf x hx => ?_, h.below, fun b hb => ?_⟩
  · rcases hget b o hb with ⟨rfl, _⟩ | ⟨_, hb'⟩
    · exact absurd (h.lt _ _ hl).1 (Nat.lt_irrefl _)
    · exact h.fam b o l hb' hl
  · rcases hget b o hb with ⟨rfl, _⟩ | ⟨_, hb'⟩
    · exact absurd (h.lt _ _ hl).1 (Nat.lt_irrefl _)
    · exact (h.obj b o l hb' hl).ban
  · rcases hget b o hb with ⟨rfl, rfl⟩ | ⟨_, hb'⟩
    · show match s.fams.get s.next with | none => s.next = s.next | some ms => s.next ∈ ms
      cases hn : s.fams.get s.next with
      | none => rfl
      | some ms => exact absurd (h.flt _ _ hn) (Nat.lt_irrefl _)
    · exact h.live b o hb' ho
  · rcases hget b o hb with ⟨rfl, rfl⟩ | ⟨_, hb'⟩
    · exact ⟨Nat.lt_succ_self _, Nat.lt_succ_self _⟩
    · exact ⟨Nat.lt_succ_of_lt (h.hlt b o hb').1, Nat.lt_succ_of_lt (h.hlt b o hb').2⟩
  · obtain ⟨o, h1, h2⟩ := h.mem f ms hf x hx
    exact ⟨o, hset _ _ h1, h2⟩
  · rcases hb with hb | rfl
    · exact ⟨(h.ban b hb).1, Nat.lt_succ_of_lt (h.ban b hb).2⟩
    · exact ⟨h.fresh, Nat.lt_succ_self _⟩

structure Laid (P : Program) (ops : List Oper) (l : List (Oper × Option (Nat × List DV))) (s s0 : St) : Prop where
  len : l.length = ops.length
  ops : ∀ (i : Nat) o f, l[i]? = some (o, f) → ops[i]? = some o
  le : s.next ≤ s0.next
  fl : ∀ (i : Nat) o b z, l[i]? = some (o, some (b, z)) → s.next ≤ b ∧ b < s0.next ∧ o.guard = none ∧ (∃ t, o.op = .alloc t ∧ zeroCellsD P t = some z) ∧ z.all DV.one = true
  one : ∀ (i j : Nat) o o' b z z', l[i]? = some (o, some (b, z)) → l[j]? = some (o', some (b, z')) → i = j
  rel : ∀ (E : Env) (φ : Ren) (w : World), WRel E φ s w → WRel (E.at fun c => E.ban c ∨ ∃ (i : Nat) (o : Oper) (z : List DV), l[i]? = some (o, some (c, z))) φ s0 w

theorem lay_spec : ∀ {ops : List Oper} {s s0 : St} {l : List (Oper × Option (Nat × List DV))}, layD P ops s = some (l, s0) → Laid P ops l s s0
  | [], s, s0, l, h => by
    simp only [layD, Option.some.injEq, Prod.mk.injEq] at h
    obtain ⟨rfl, rfl⟩ := h
    exact ⟨rfl, fun i o f h => by simp at h, Nat.le_refl _, fun i o b z h => by simp at h, fun i j o o' b z z' h => by simp at h, fun E φ w h => h.lessBan fun b hb => by
      rcases hb with hb | ⟨i, o, z, hb⟩
      · exact hb
      · simp at hb⟩
  | o :: r, s, s0, l, h => by
    have plain : ∀ {l' : List (Oper × Option (Nat × List DV))} {s1 : St}, layD P r s = some (l', s1) → Laid P (o :: r) ((o, none) :: l') s s1 := by
      intro l' s1 h1
      have L := lay_spec h1
      refine ⟨by simp [L.len], fun i o' f h => ?_, L.le, fun i o' b z h => ?_, fun i j o1 o2 b z z' h1 h2 => ?_, fun E φ w h => (L.rel E φ w h).lessBan fun b hb => ?_⟩
      · cases i with
        | zero => simp only [List.getElem?_cons_zero, Option.some.injEq, Prod.mk.injEq] at h ⊢; exact h.1
        | succ i => rw [List.getElem?_cons_succ] at h ⊢; exact L.ops i o' f h
      · cases i with
        | zero => simp at h
        | succ i => rw [List.getElem?_cons_succ] at h; exact L.fl i o' b z h
      · cases i with
        | zero => simp at h1
        | succ i => cases j with
          | zero => simp at h2
          | succ j => rw [List.getElem?_cons_succ] at h1 h2; rw [L.one i j _ _ _ _ _ h1 h2]
      · rcases hb with hb | ⟨i, o', z, hb⟩
        · exact .inl hb
        · cases i with
          | zero => simp at hb
          | succ i => rw [List.getElem?_cons_succ] at hb; exact .inr ⟨i, o', z, hb⟩
    unfold layD at h
    split at h
    · rename_i t hop hg
      split at h
      · rename_i z hz
        cases hone : z.all DV.one with
        | false => rw [hone] at h; simp at h
        | true =>
          rw [hone] at h
          simp only [cond_true, Option.map_eq_some_iff, Prod.mk.injEq, Prod.exists] at h
          obtain ⟨l', s1, h1, rfl, rfl⟩ := h
          have L := lay_spec h1
          have hn : (s.newRow z).2.next = s.next + 1 := rfl
          have hle := L.le
          rw [hn] at hle
          refine ⟨by simp [L.len], fun i o' f h => ?_, by omega, fun i o' b z' h => ?_, fun i j o1 o2 b z1 z2 h1 h2 => ?_, fun E φ w h => (L.rel _ φ w (h.ghost z)).lessBan fun b hb => ?_⟩
          · cases i with
            | zero => simp only [List.getElem?_cons_zero, Option.some.injEq, Prod.mk.injEq] at h ⊢; exact h.1
            | succ i => rw [List.getElem?_cons_succ] at h ⊢; exact L.ops i o' f h
          · cases i with
            | zero =>
              simp only [List.getElem?_cons_zero, Option.some.injEq, Prod.mk.injEq] at h
              obtain ⟨rfl, rfl, rfl⟩ := h
              exact ⟨Nat.le_refl s.next, hle, hg, ⟨t, hop, hz⟩, hone⟩
            | succ i =>
              rw [List.getElem?_cons_succ] at h
              obtain ⟨k1, k2⟩ := L.fl i o' b z' h
              rw [hn] at k1
              exact ⟨by omega, k2⟩
          · cases i with
            | zero =>
              simp only [List.getElem?_cons_zero, Option.some.injEq, Prod.mk.injEq] at h1
              obtain ⟨_, rfl, _⟩ := h1
              cases j with
              | zero => rfl
              | succ j =>
                rw [List.getElem?_cons_succ] at h2
                have := (L.fl j _ _ _ h2).1
                rw [hn] at this
                exact absurd this (by show ¬ s.next + 1 ≤ s.next; omega)
            | succ i =>
              rw [List.getElem?_cons_succ] at h1
              cases j with
              | zero =>
                simp only [List.getElem?_cons_zero, Option.some.injEq, Prod.mk.injEq] at h2
                obtain ⟨_, rfl, _⟩ := h2
                have := (L.fl i _ _ _ h1).1
                rw [hn] at this
                exact absurd this (by show ¬ s.next + 1 ≤ s.next; omega)
              | succ j => rw [List.getElem?_cons_succ] at h2; rw [L.one i j _ _ _ _ _ h1 h2]
          · rcases hb with hb | ⟨i, o', z', hb⟩
            · exact .inl (.inl hb)
            · cases i with
              | zero =>
                simp only [List.getElem?_cons_zero, Option.some.injEq, Prod.mk.injEq] at hb
                exact .inl (.inr hb.2.1.symm)
              | succ i => rw [List.getElem?_cons_succ] at hb; exact .inr ⟨i, o', z', hb⟩
      · simp at h
    · simp only [Option.map_eq_some_iff, Prod.mk.injEq, Prod.exists] at h
      obtain ⟨l', s1, h1, rfl, rfl⟩ := h
      exact plain h1

theorem get_maskTm (tm : PM DV) : ∀ (ts : List Tmp) (t : Nat), (maskTm tm ts).get t = if t ∈ ts then tm.get t else none
  | [], t => by simp [maskTm, PM.get_nil]
  | x :: ts, t => by
    unfold maskTm
    cases hx : tm.get x with
    | none =>
      dsimp only
      rw [get_maskTm tm ts t]
      by_cases e : t = x
      · subst e
        rw [if_pos (List.mem_cons_self), hx]
        split <;> rfl
      · simp [e]
    | some v =>
      dsimp only
      rw [PM.get_set, get_maskTm tm ts t]
      by_cases e : t = x
      · subst e; rw [if_pos rfl, if_pos (List.mem_cons_self), hx]
      · rw [if_neg e]; simp [e]

end Go.Dm
