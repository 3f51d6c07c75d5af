import Derived.Test.YtbnkomlknlpmmaaGreatDoorDmF7
import Derived.RangeFuncRecord
/-
  The abstract machine: code.
-/
namespace Go.Dm
open Go.RowKit
variable {E : Env} {φ : Ren} {P : Program} {s : St} {w : World} {T : Tab} {rc : Rec} {N : Nat}

theorem CPost.of_le {ψ : Ren} {x : X} {fr : Fr} {s : St} {e : Exit} {a : Act} {w : World} (hle : φ.le ψ) (h : CPost E ψ x fr s e a w) : CPost E φ x fr s e a w := by
  obtain ⟨rfl, χ, h1, h2, h3⟩ := h
  exact ⟨rfl, χ, Ren.le_trans hle h1, h2, h3⟩

theorem CodeSim.run {c : Code} {fr fr' : Fr} {s s' : St} {x : X} (h : CodeSim E P c fr s x fr' s') {a : Act} {r : Option Nat} (hw : WRel E φ s w) (ha : ARel E φ fr a) (hr : RoundRel φ fr.round r) (n : Nat) {Q : Exit → Act → World → Prop}
    (hQ : ∀ ψ a' w', φ.le ψ → WRel E ψ s' w' → ARel E ψ fr' a' → RoundRel ψ fr'.round r → Q x.toExit a' w') : c.wpIn (Fw r) n P Q a w := by
  refine wpIn_mono (h.2 φ w a r hw ha hr n) ?_
  rintro e a' w' ⟨rfl, ψ, h1, h2, h3⟩
  exact hQ ψ a' w' h1 h2 h3 (by rw [h.1]; exact hr.mono h1)

theorem seq_sound (hrc : RecOK E P N rc) {p q : Code} {fr fr' : Fr} {s s' : St} {x : X} (h : codeStep P T rc (.seq p q) fr s = some (x, fr', s')) : CodeSim E P (.seq p q) fr s x fr' s' := by
  unfold codeStep at h
  dsimp only at h
  cases hp : rc.code p fr s with
  | none => rw [hp] at h; simp at h
  | some r1 =>
    obtain ⟨x1, fr1, s1⟩ := r1
    rw [hp] at h
    have h1 := hrc.code _ _ _ _ _ _ hp
    cases x1 with
    | normal =>
      have h2 := hrc.code _ _ _ _ _ _ (show rc.code q fr1 s1 = some (x, fr', s') from h)
      refine ⟨h2.1.trans h1.1, fun φ w a r hw ha hr n => wpIn_seq (h1.run hw ha hr n fun ψ a' w' hle hw' ha' hr' => ?_)⟩
      show Code.wpIn (Fw r) n P q _ a' w'
      exact wpIn_mono (h2.2 ψ w' a' r hw' ha' hr' n) fun e a w => CPost.of_le hle
    | exit id =>
      simp only [Option.some.injEq, Prod.mk.injEq] at h; obtain ⟨rfl, rfl, rfl⟩ := h
      exact ⟨h1.1, fun φ w a r hw ha hr n => wpIn_seq (h1.run hw ha hr n fun ψ a' w' hle hw' ha' hr' => ⟨rfl, ψ, hle, hw', ha'⟩)⟩
    | goto l =>
      simp only [Option.some.injEq, Prod.mk.injEq] at h; obtain ⟨rfl, rfl, rfl⟩ := h
      exact ⟨h1.1, fun φ w a r hw ha hr n => wpIn_seq (h1.run hw ha hr n fun ψ a' w' hle hw' ha' hr' => ⟨rfl, ψ, hle, hw', ha'⟩)⟩
    | ret =>
      simp only [Option.some.injEq, Prod.mk.injEq] at h; obtain ⟨rfl, rfl, rfl⟩ := h
      exact ⟨h1.1, fun φ w a r hw ha hr n => wpIn_seq (h1.run hw ha hr n fun ψ a' w' hle hw' ha' hr' => ⟨rfl, ψ, hle, hw', ha'⟩)⟩

theorem cond_sound (hrc : RecOK E P N rc) {o : Operand} {p q : Code} {fr fr' : Fr} {s s' : St} {x : X} (h : codeStep P T rc (.cond o p q) fr s = some (x, fr', s')) : CodeSim E P (.cond o p q) fr s x fr' s' := by
  unfold codeStep at h
  dsimp only at h
  split at h
  · rename_i b ho
    have h1 := hrc.code _ _ _ _ _ _ h
    refine ⟨h1.1, fun φ w a r hw ha hr n => ?_⟩
    have hv := ha.eval o
    rw [ho] at hv
    have hev : a.eval o = .bool b := by
      generalize a.eval o = v at hv
      cases hv; rfl
    refine wpIn_cond hev ?_
    have := h1.2 φ w a r hw ha hr n
    cases b <;> exact this
  · simp at h

theorem block_sound (hrc : RecOK E P N rc) {id : Nat} {p : Code} {fr fr' : Fr} {s s' : St} {x : X} (h : codeStep P T rc (.block id p) fr s = some (x, fr', s')) : CodeSim E P (.block id p) fr s x fr' s' := by
  unfold codeStep at h
  dsimp only at h
  cases hp : rc.code p fr s with
  | none => rw [hp] at h; simp at h
  | some r1 =>
    obtain ⟨x1, fr1, s1⟩ := r1
    rw [hp] at h
    have h1 := hrc.code _ _ _ _ _ _ hp
    cases x1 with
    | exit j =>
      simp only [Option.some.injEq, Prod.mk.injEq] at h; obtain ⟨rfl, rfl, rfl⟩ := h
      refine ⟨h1.1, fun φ w a r hw ha hr n => wpIn_block (h1.run hw ha hr n fun ψ a' w' hle hw' ha' hr' => ?_)⟩
      show if j = id then CPost E φ _ fr1 s1 .normal a' w' else CPost E φ _ fr1 s1 (.exit j) a' w'
      by_cases e : j = id
      · rw [if_pos e, show Nat.beq j id = true by simpa [Nat.beq_eq] using e]
        exact ⟨rfl, ψ, hle, hw', ha'⟩
      · rw [if_neg e, show Nat.beq j id = false by rw [Bool.eq_false_iff]; simpa [Nat.beq_eq] using e]
        exact ⟨rfl, ψ, hle, hw', ha'⟩
    | normal =>
      simp only [Option.some.injEq, Prod.mk.injEq] at h; obtain ⟨rfl, rfl, rfl⟩ := h
      exact ⟨h1.1, fun φ w a r hw ha hr n => wpIn_block (h1.run hw ha hr n fun ψ a' w' hle hw' ha' hr' => ⟨rfl, ψ, hle, hw', ha'⟩)⟩
    | goto l =>
      simp only [Option.some.injEq, Prod.mk.injEq] at h; obtain ⟨rfl, rfl, rfl⟩ := h
      exact ⟨h1.1, fun φ w a r hw ha hr n => wpIn_block (h1.run hw ha hr n fun ψ a' w' hle hw' ha' hr' => ⟨rfl, ψ, hle, hw', ha'⟩)⟩
    | ret =>
      simp only [Option.some.injEq, Prod.mk.injEq] at h; obtain ⟨rfl, rfl, rfl⟩ := h
      exact ⟨h1.1, fun φ w a r hw ha hr n => wpIn_block (h1.run hw ha hr n fun ψ a' w' hle hw' ha' hr' => ⟨rfl, ψ, hle, hw', ha'⟩)⟩

theorem loop_sound (hrc : RecOK E P N rc) {p : Code} {fr fr' : Fr} {s s' : St} {x : X} (h : codeStep P T rc (.loop p) fr s = some (x, fr', s')) : fr'.round = fr.round ∧ LoopSim E P (N + 1) p fr s x fr' s' := by
  unfold codeStep at h
  dsimp only at h
  cases hp : rc.code p fr s with
  | none => rw [hp] at h; simp at h
  | some r1 =>
    obtain ⟨x1, fr1, s1⟩ := r1
    rw [hp] at h
    have h1 := hrc.code _ _ _ _ _ _ hp
    cases x1 with
    | normal =>
      have h' : rc.code (.loop p) fr1 s1 = some (x, fr', s') := h
      have h2 := hrc.loop _ _ _ _ _ _ h'
      have h3 := hrc.code _ _ _ _ _ _ h'
      refine ⟨h3.1.trans h1.1, fun φ w a r hw ha hr n => ?_⟩
      rw [roundsIn_succ]
      refine h1.run hw ha hr n fun ψ a' w' hle hw' ha' hr' => ?_
      show Code.roundsIn (Fw r) n P p (CPost E φ x fr' s') N a' w'
      have mono : ∀ (m : Nat) (a : Act) (w : World), Code.roundsIn (Fw r) n P p (CPost E ψ x fr' s') m a w → Code.roundsIn (Fw r) n P p (CPost E φ x fr' s') m a w := by
        intro m
        induction m with
        | zero => exact fun _ _ h => h
        | succ m ih =>
          intro a w h
          refine wpIn_mono (show Code.wpIn _ _ _ _ _ _ _ from h) fun e a w he => ?_
          cases e with
          | normal => exact ih a w he
          | _ => exact CPost.of_le hle he
      exact mono N a' w' (h2 ψ w' a' r hw' ha' hr' n)
    | exit id =>
      simp only [Option.some.injEq, Prod.mk.injEq] at h; obtain ⟨rfl, rfl, rfl⟩ := h
      exact ⟨h1.1, fun φ w a r hw ha hr n => h1.run hw ha hr n fun ψ a' w' hle hw' ha' hr' => ⟨rfl, ψ, hle, hw', ha'⟩⟩
    | goto l =>
      simp only [Option.some.injEq, Prod.mk.injEq] at h; obtain ⟨rfl, rfl, rfl⟩ := h
      exact ⟨h1.1, fun φ w a r hw ha hr n => h1.run hw ha hr n fun ψ a' w' hle hw' ha' hr' => ⟨rfl, ψ, hle, hw', ha'⟩⟩
    | ret =>
      simp only [Option.some.injEq, Prod.mk.injEq] at h; obtain ⟨rfl, rfl, rfl⟩ := h
      exact ⟨h1.1, fun φ w a r hw ha hr n => h1.run hw ha hr n fun ψ a' w' hle hw' ha' hr' => ⟨rfl, ψ, hle, hw', ha'⟩⟩

/-! ### Scopes -/
section
variable {b : Frame} {a : Act} {k : List Item} {cs : List Frame}
theorem stepR_scope {c : Code} : step P (lone (b.atR a (.code (.scope c) :: k)) cs w) = .next (lone (b.atR a (.code c :: .inScope c :: k)) cs w) :=
  step_lone_go (by simp [stepG, stepG.exec, Frame.atR])
theorem stepR_inScope {c : Code} : step P (lone (b.atR a (.inScope c :: k)) cs w) = .next (lone (b.atR a k) cs w) :=
  step_lone_go (by simp [stepG, stepG.exec, Frame.atR])
end

theorem scope_sound (hrc : RecOK E P N rc) {body start : Code} {fr fr' : Fr} {s s' : St} {x : X} (h : scopeStep rc body start fr s = some (x, fr', s')) :
    fr'.round = fr.round ∧ ∀ (φ : Ren) (w : World) (a : Act) (r : Option Nat), WRel E φ s w → ARel E φ fr a → RoundRel φ fr.round r → ∀ _ : Nat,
    ∀ (bf : Frame) (k : List Item) (cs : List Frame), bf.roundOf = (Fw r).round →
      ∃ e a' w', CPost E φ x fr' s' e a' w' ∧ ArrivesIn (Machine.fenced P (Fw r)) P (lone (bf.atR a (.code start :: .inScope body :: k)) cs w) bf k cs e a' w' := by
  unfold scopeStep at h
  cases hp : rc.code start fr s with
  | none => rw [hp] at h; simp at h
  | some r1 =>
    obtain ⟨x1, fr1, s1⟩ := r1
    rw [hp] at h
    have h1 := hrc.code _ _ _ _ _ _ hp
    cases x1 with
    | normal =>
      simp only [Option.some.injEq, Prod.mk.injEq] at h; obtain ⟨rfl, rfl, rfl⟩ := h
      refine ⟨h1.1, fun φ w a r hw ha hr n bf k cs hro => ?_⟩
      obtain ⟨e, a1, w1, hq, harr⟩ := h1.2 φ w a r hw ha hr n bf (.inScope body :: k) cs hro trivial (Fw_room r _)
      obtain ⟨rfl, hq'⟩ := hq
      exact ⟨.normal, a1, w1, ⟨rfl, hq'⟩, StepsIn.trans harr (.one (fenced_calm (n := n) (F := Fw r) (fr := bf.atR a1 (.inScope body :: k)) trivial (Fw_room r _) rfl) stepR_inScope)⟩
    | exit id =>
      simp only [Option.some.injEq, Prod.mk.injEq] at h; obtain ⟨rfl, rfl, rfl⟩ := h
      refine ⟨h1.1, fun φ w a r hw ha hr n bf k cs hro => ?_⟩
      obtain ⟨e, a1, w1, hq, harr⟩ := h1.2 φ w a r hw ha hr n bf (.inScope body :: k) cs hro trivial (Fw_room r _)
      obtain ⟨rfl, hq'⟩ := hq
      have hx : exitTo id (.inScope body :: k) = exitTo id k := by simp [exitTo]
      exact ⟨.exit id, a1, w1, ⟨rfl, hq'⟩, fun k' hk => harr.1 k' (by rw [hx]; exact hk), fun hr' hk => harr.2 hr' (by rw [hx]; exact hk)⟩
    | ret =>
      simp only [Option.some.injEq, Prod.mk.injEq] at h; obtain ⟨rfl, rfl, rfl⟩ := h
      refine ⟨h1.1, fun φ w a r hw ha hr n bf k cs hro => ?_⟩
      obtain ⟨e, a1, w1, hq, harr⟩ := h1.2 φ w a r hw ha hr n bf (.inScope body :: k) cs hro trivial (Fw_room r _)
      obtain ⟨rfl, hq'⟩ := hq
      exact ⟨.ret, a1, w1, ⟨rfl, hq'⟩, harr⟩
    | goto l =>
      dsimp only at h
      cases hf : findLabel body l with
      | none =>
        rw [hf] at h
        simp only [Option.some.injEq, Prod.mk.injEq] at h; obtain ⟨rfl, rfl, rfl⟩ := h
        refine ⟨h1.1, fun φ w a r hw ha hr n bf k cs hro => ?_⟩
        obtain ⟨e, a1, w1, hq, harr⟩ := h1.2 φ w a r hw ha hr n bf (.inScope body :: k) cs hro trivial (Fw_room r _)
        obtain ⟨rfl, hq'⟩ := hq
        have hx : gotoIn l (.inScope body :: k) = gotoIn l k := by simp [gotoIn, hf]
        exact ⟨.goto l, a1, w1, ⟨rfl, hq'⟩, fun k' hk => harr.1 k' (by rw [hx]; exact hk), fun hr' hk => harr.2 hr' (by rw [hx]; exact hk)⟩
      | some rest =>
        rw [hf] at h
        obtain ⟨h2, h3⟩ := hrc.scope _ _ _ _ _ _ _ (show rc.scope body rest fr1 s1 = some (x, fr', s') from h)
        refine ⟨h2.trans h1.1, fun φ w a r hw ha hr n bf k cs hro => ?_⟩
        obtain ⟨e, a1, w1, hq, harr⟩ := h1.2 φ w a r hw ha hr n bf (.inScope body :: k) cs hro trivial (Fw_room r _)
        obtain ⟨rfl, ψ, hle, hw1, ha1⟩ := hq
        have hx : gotoIn l (.inScope body :: k) = some (.code rest :: .inScope body :: k) := by simp [gotoIn, hf]
        obtain ⟨e2, a2, w2, hq2, harr2⟩ := h3 ψ w1 a1 r hw1 ha1 (by rw [h1.1]; exact hr.mono hle) n bf k cs hro
        exact ⟨e2, a2, w2, hq2.of_le hle, .of_steps (harr.1 _ hx) harr2⟩

/-! ### A range over a function -/
theorem range_sound (hrc : RecOK E P N rc) (hN : NoCount P) {f : Operand} {params : Array Tmp} {assign body : Code} {fr fr' : Fr} {s s' : St} {x : X} (h : rangeStep rc rc.code f params assign body fr s = some (x, fr', s')) : CodeSim E P (.rangeFunc f params assign body) fr s x fr' s' := by
  unfold rangeStep at h
  split at h
  · simp at h
  · rename_i d mk s1 hd
    dsimp only at h
    split at h
    · rename_i g args ht
      split at h
      · rename_i s3 hcall
        split at h
        · rename_i L3 ho3
          have hc := hrc.call _ _ _ _ _ hcall
          -- the pending jump
          have hjump : fr'.round = fr.round ∧ L3.state ≠ .busy ∧ ∀ (φ : Ren) (w : World) (a : Act) (r : Option Nat), WRel E φ { s3 with heap := s3.heap.set s1.next (.loop { L3 with state := .exhausted }) } w → ARel E φ { fr with marks := mk ++ fr.marks } a → RoundRel φ fr.round r → ∀ n,
              match L3.pending with
              | none => CPost E φ x fr' s' .normal a w
              | some c => c.wpIn (Fw r) n P (CPost E φ x fr' s') a w := by
            split at h
            · simp at h
            · rename_i hst
              cases hpd : L3.pending with
              | none =>
                rw [hpd] at h
                simp only [Option.some.injEq, Prod.mk.injEq] at h
                obtain ⟨rfl, rfl, rfl⟩ := h
                exact ⟨rfl, hst, fun φ w a r hw ha hr n => ⟨rfl, φ, φ.le_refl, hw, ha⟩⟩
              | some c =>
                rw [hpd] at h
                have h1 := hrc.code _ _ _ _ _ _ h
                exact ⟨h1.1, hst, fun φ w a r hw ha hr n => h1.2 φ w a r hw ha hr n⟩
          obtain ⟨hround, hst3, hjump⟩ := hjump
          refine ⟨hround, fun φ w a r hw ha hr n => wpIn_rangeFunc fun fn _ => ?_⟩
          -- the block of the deferred calls
          have hblock : ∃ (ψ : Ren) (w1 : World) (Ld : Loc) (mark : List Deferred), φ.le ψ ∧ WRel E ψ s1 w1 ∧ ψ d = some Ld ∧ MarksRel ψ (mk ++ fr.marks) (mark ++ a.defers) ∧
              (Instr.enterLoop fn a.tmps params assign body r).run P w = .ok (w1.heap.size, mark) (w1.alloc (.loop { state := .ready, pending := none, fn, tmps := a.tmps, params, assign, body, defers := Ld.B })) := by
            cases hfr : fr.round with
            | some l =>
              rw [hfr] at hd hr
              cases hr' : r with
              | none => rw [hr'] at hr; exact hr.elim
              | some r' =>
                rw [hr'] at hr
                obtain ⟨Lc, hLc, rfl⟩ := hr
                dsimp only at hd
                split at hd
                · rename_i L hol
                  simp only [Option.some.injEq, Prod.mk.injEq] at hd
                  obtain ⟨rfl, rfl, rfl⟩ := hd
                  obtain ⟨M, hM, hL⟩ := hw.obj _ _ _ hol hLc
                  obtain ⟨Ld, hLd, hB⟩ := hL.defers
                  refine ⟨φ, w, Ld, [], φ.le_refl, hw, hLd, ha.marks, ?_⟩
                  simp only [Instr.enterLoop, Sem.run_bind, getLoop_run hM, Result.andThen_ok, Sem.run_pure, run_newObj, hB]
                  rfl
                · simp at hd
            | none =>
              rw [hfr] at hd hr
              cases hr' : r with
              | some r' => rw [hr'] at hr; exact hr.elim
              | none =>
                dsimp only [St.new] at hd
                simp only [Option.some.injEq, Prod.mk.injEq] at hd
                obtain ⟨rfl, rfl, rfl⟩ := hd
                obtain ⟨k1, k2, _⟩ := hw.new (mk := fun _ => .defd) (obj := .deferred (some [])) (N := 0) rfl (by
                  exact World.alloc_heap_new _ _)
                refine ⟨_, _, _, [{ target := .collected w.heap.size, args := #[] }], k2, k1, Ren.upd_self _ _ _, .cons (l := ⟨w.heap.size, 0, 0, s.next⟩) (Ren.upd_self _ _ _) (ha.marks.mono k2), ?_⟩
                simp only [Instr.enterLoop, Sem.run_bind, run_newObj, Result.andThen_ok, Sem.run_pure]
                rfl
          obtain ⟨ψ, w1, Ld, mark, hle1, hw1, hLd, hmarks, henter⟩ := hblock
          -- the record
          have hrec := hw1.new (mk := fun _ => .loop { state := .ready, pending := none, fn := fr.fn, tm := fr.tm, nt := fr.nt, params := params.toList, assign, body, defers := d })
            (obj := .loop { state := .ready, pending := none, fn, tmps := a.tmps, params, assign, body, defers := Ld.B }) (N := 0) rfl (by
              refine ⟨{ state := .ready, pending := none, fn, tmps := a.tmps, params, assign, body, defers := Ld.B }, World.alloc_heap_new _ _, ⟨rfl, rfl, ha.size, fun t ht => (ha.tmps t ht).mono ?_, ha.out, rfl, rfl, rfl, ⟨Ld, Ren.le_upd _ hw1.fresh _ _ hLd, rfl⟩⟩⟩
              exact Ren.le_trans hle1 (Ren.le_upd _ hw1.fresh))
          obtain ⟨hw2, hle2, _⟩ := hrec
          have hl : (Ren.upd ψ s1.next ⟨w1.heap.size, 0, 0, s1.next⟩) s1.next = some ⟨w1.heap.size, 0, 0, s1.next⟩ := Ren.upd_self _ _ _
          have hft := funcTgt_sound (P := P) (vs := [.func (.yield w1.heap.size) #[] #[]]) hN ((ha.eval f).mono (Ren.le_trans hle1 hle2)) (.cons (.yieldv hl) .nil) ht
          obtain ⟨us, hus, hfn⟩ := hft
          obtain ⟨⟨fng, hg, hgb⟩, hsim⟩ := hc
          obtain ⟨dd, k1, k2, _⟩ := hfn fng hg hgb (w1.alloc (.loop { state := .ready, pending := none, fn, tmps := a.tmps, params, assign, body, defers := Ld.B }))
          refine ⟨w1.heap.size, mark, _, dd, _, g, ⟨us⟩, _, henter, ?_, fun _ _ => trivial, k2, fun hdp => absurd hdp (by simp [Fw, Fence.wide]), ?_⟩
          · simp only [resolve]
            have harr : (#[Operand.const (Value.func (.yield w1.heap.size) #[] #[])] : Array Operand).map a.eval = ⟨[.func (.yield w1.heap.size) #[] #[]]⟩ := by
              apply Array.ext'
              simp [Act.eval]
            rw [harr]
            exact k1
          · have hcs : CallsIn (Fw r) (n - 1) P g ⟨us⟩ _ _ := hsim _ _ us hw2 hus (n - 1)
            refine hcs.mono ?_
            rintro e w3 ⟨χ, v, rfl, hle3, hw3, _⟩
            have hl3 := hle3 _ _ hl
            obtain ⟨M3, hM3, hL3⟩ := hw3.obj _ _ _ ho3 hl3
            obtain ⟨w4, hset, hw4⟩ := setLoop_sound (P := P) hw3 ho3 hl3 (L1 := { L3 with state := .exhausted }) { M3 with state := .exhausted } ⟨rfl, hL3.pending, hL3.size, hL3.tmps, hL3.out, hL3.params, hL3.assign, hL3.body, hL3.defers⟩
            refine ⟨M3.pending, w4, ?_, ?_⟩
            · have hb : ¬ (M3.state == LoopState.busy) = true := by
                rw [hL3.state]
                revert hst3
                cases L3.state <;> intro h <;> first | exact Bool.false_ne_true | exact absurd rfl h
              simp only [Instr.endLoop, Sem.run_bind, getLoop_run hM3, Result.andThen_ok]
              rw [if_neg hb]
              simp only [Sem.run_bind, Sem.run_pure]
              rw [show (setObj w1.heap.size _).run P w3 = .ok () w4 from hset]
              rfl
            · have hle : φ.le χ := Ren.le_trans hle1 (Ren.le_trans hle2 hle3)
              have hj := hjump χ w4 { a with defers := mark ++ a.defers } r hw4 ⟨ha.size, fun t ht => (ha.tmps t ht).mono hle, ha.out, hmarks.mono (Ren.le_trans hle2 hle3)⟩ (hr.mono hle) n
              rw [hL3.pending]
              revert hj
              cases L3.pending with
              | none => exact fun hj => hj.of_le hle
              | some c => exact fun hj => wpIn_mono hj fun e a w => CPost.of_le hle
        · simp at h
      · simp at h
    · simp at h

/-! ### All code -/
theorem code_sound (hrcX : ∀ X, RecOK (E.at X) P N rc) (hTX : ∀ X, TabOK (E.at X) P T) (hN : NoCount P) {c : Code} {fr fr' : Fr} {s s' : St} {x : X} (h : codeStep P T rc c fr s = some (x, fr', s')) : CodeSim E P c fr s x fr' s' := by
  have hrc : RecOK E P N rc := hrcX E.ban
  have hT : TabOK E P T := hTX E.ban
  cases c with
  | skip =>
    simp only [codeStep, Option.some.injEq, Prod.mk.injEq] at h; obtain ⟨rfl, rfl, rfl⟩ := h
    exact ⟨rfl, fun φ w a r hw ha hr n => wpIn_skip ⟨rfl, φ, φ.le_refl, hw, ha⟩⟩
  | label l =>
    simp only [codeStep, Option.some.injEq, Prod.mk.injEq] at h; obtain ⟨rfl, rfl, rfl⟩ := h
    exact ⟨rfl, fun φ w a r hw ha hr n => wpIn_label ⟨rfl, φ, φ.le_refl, hw, ha⟩⟩
  | exit id =>
    simp only [codeStep, Option.some.injEq, Prod.mk.injEq] at h; obtain ⟨rfl, rfl, rfl⟩ := h
    exact ⟨rfl, fun φ w a r hw ha hr n => wpIn_exit ⟨rfl, φ, φ.le_refl, hw, ha⟩⟩
  | goto l =>
    simp only [codeStep, Option.some.injEq, Prod.mk.injEq] at h; obtain ⟨rfl, rfl, rfl⟩ := h
    exact ⟨rfl, fun φ w a r hw ha hr n => wpIn_goto ⟨rfl, φ, φ.le_refl, hw, ha⟩⟩
  | ret =>
    simp only [codeStep, Option.some.injEq, Prod.mk.injEq] at h; obtain ⟨rfl, rfl, rfl⟩ := h
    exact ⟨rfl, fun φ w a r hw ha hr n => wpIn_ret ⟨rfl, φ, φ.le_refl, hw, ha⟩⟩
  | seq p q => exact seq_sound hrc h
  | cond o p q => exact cond_sound hrc h
  | block id p => exact block_sound hrc h
  | loop p =>
    obtain ⟨h1, h2⟩ := loop_sound hrc h
    exact ⟨h1, fun φ w a r hw ha hr n => wpIn_loop_rounds (N + 1) (h2 φ w a r hw ha hr n)⟩
  | scope b =>
    obtain ⟨h1, h2⟩ := hrc.scope b b fr s x fr' s' (by simpa only [codeStep] using h)
    refine ⟨h1, fun φ w a r hw ha hr n bf k cs hro hb hrm => ?_⟩
    obtain ⟨e, a1, w1, hq, harr⟩ := h2 φ w a r hw ha hr n bf k cs hro
    exact ⟨e, a1, w1, hq, .of_steps (.one (fenced_calm (n := n) hb hrm rfl) stepR_scope) harr⟩
  | region id ops draws =>
    cases draws with
    | false =>
      simp only [codeStep, Option.map_eq_some_iff, Prod.mk.injEq, Prod.exists] at h
      obtain ⟨fr1, s1, h1, rfl, rfl, rfl⟩ := h
      refine ⟨ops_round _ _ _ _ _ h1, fun φ w a r hw ha hr n => wpIn_region ?_⟩
      rw [List.range_eq_range']
      exact ops_sound hrc hT hN r n _ ops.size 0 φ fr fr1 s s1 a w (by omega) hw ha h1 fun ψ a' w' h1 h2 h3 => ⟨rfl, ψ, h1, h2, h3⟩
    | true =>
      simp only [codeStep] at h
      cases hok : drawOK ops with
      | false => rw [hok] at h; simp at h
      | true =>
        rw [hok] at h
        simp only [cond_true, Option.map_eq_some_iff, Prod.mk.injEq, Prod.exists] at h
        obtain ⟨fr1, s1, h1, rfl, rfl, rfl⟩ := h
        exact draw_sound hrcX hTX hN hok h1
  | rangeFunc f params assign body => exact range_sound hrc hN (by simpa only [codeStep] using h)
  | refuse m => simp [codeStep] at h

theorem rec_sound (hT : ∀ X, TabOK (E.at X) P T) (hN : NoCount P) : ∀ (N : Nat) (X : Nat → Prop), RecOK (E.at X) P N (recN P T N)
  | 0, X => ⟨fun _ _ _ _ _ h => by simp [recN] at h, fun _ _ _ _ _ _ h => by simp [recN] at h, fun _ _ _ _ _ _ h => by simp [recN] at h, fun _ _ _ _ _ _ _ h => by simp [recN] at h⟩
  | N + 1, X => by
    have ih := rec_sound hT hN N
    refine ⟨fun f args s d s' h => ?_, fun c fr s x fr' s' h => ?_, fun b fr s x fr' s' h => ?_, fun b c fr s x fr' s' h => ?_⟩
    · exact call_sound (ih X) (hT X) h
    · exact code_sound (E := E.at X) ih hT hN h
    · exact (loop_sound (T := T) (ih X) h).2
    · exact scope_sound (ih X) h

end Go.Dm
