import Derived.Test.YtbnkomlknlpmmaaGreatDoorDmF
/-
  The abstract machine: rounds, calls, one operation, a region in the order of its text.
-/
namespace Go.Dm
open Go.RowKit
variable {E : Env} {φ : Ren} {P : Program} {s : St} {w : World} {T : Tab} {rc : Rec} {N : Nat}

/-! ### A round of a loop over a function -/
theorem fold_put {fr : Fr} : ∀ (ps : List Tmp) (ds : List DV) (vs : List Value) (tm : PM DV) (a : Act), RelL E.σ φ ds vs → ARel E φ { fr with tm := tm } a →
    ARel E φ { fr with tm := (ps.zip ds).foldl (fun tm (t, d) => cond (Nat.blt t fr.nt) (tm.set t d) tm) tm } { a with tmps := (ps.zip vs).foldl (fun tmps (t, v) => tmps.setIfInBounds t v) a.tmps }
  | [], ds, vs, tm, a, _, ha => by simpa using ha
  | p :: ps, [], vs, tm, a, h, ha => by cases h; simpa using ha
  | p :: ps, d :: ds, v :: vs, tm, a, .cons h k, ha => by
    simp only [List.zip_cons_cons, List.foldl_cons]
    have h1 := ha.put h (some p)
    have e1 : ({ fr with tm := tm } : Fr).put (some p) d = { fr with tm := cond (Nat.blt p fr.nt) (tm.set p d) tm } := by
      unfold Fr.put
      simp only
      cases Nat.blt p fr.nt <;> rfl
    rw [e1] at h1
    exact fold_put ps ds vs _ (a.put (some p) v) k h1

theorem getLoop_run {B : Nat} {M : Loop} (h : w.heap[B]? = some (.loop M)) : (Instr.getLoop B).run P w = .ok M w := by
  simp [Instr.getLoop, getObj, Sem.run, h]

/-- The record of a loop is turned. -/
theorem setLoop_sound (h : WRel E φ s w) {l : Nat} {L L1 : DLoop} {Lc : Loc} (hb : s.heap.get l = some (.loop L)) (hφ : φ l = some Lc) (M1 : Loop) (hr : LRel E φ L1 M1) :
    ∃ w', (setObj Lc.B (.loop M1)).run P w = .ok () w' ∧ WRel E φ { s with heap := s.heap.set l (.loop L1) } w' :=
  setObj_sound h hb hφ rfl rfl rfl (.loop M1) fun _ hw' => ⟨M1, hw', hr⟩

theorem round_sound (hrc : RecOK E P N rc) {l : Nat} {args : List DV} {d : DV} {s' : St} (h : roundStep rc l args s = some (d, s')) {vs : List Value} {Lc : Loc} (hw : WRel E φ s w) (hφ : φ l = some Lc) (ha : RelL E.σ φ args vs) :
    ∃ M : Loop, w.heap[Lc.B]? = some (.loop M) ∧ M.params.size = vs.length ∧ ∀ n f,
      RoundIn Fence.wide n P Lc.B f ((M.params.zip (⟨vs⟩ : Array Value)).foldl (fun tmps (t, a) => tmps.setIfInBounds t a) M.tmps) M.assign M.body w fun e w' => ∃ ψ x, e = .returned x ∧ φ.le ψ ∧ WRel E ψ s' w' ∧ Rel E.σ ψ d x := by
  unfold roundStep at h
  split at h
  · rename_i L ho
    obtain ⟨M, hM, hL⟩ := hw.obj _ _ _ ho hφ
    cases hlen : Nat.beq args.length L.params.length with
    | false => rw [hlen] at h; simp at h
    | true =>
    rw [hlen] at h
    simp only [cond_true] at h
    have hlen := Nat.eq_of_beq_eq_true hlen
    have hps : M.params.size = vs.length := by
      rw [← ha.length, hlen, ← hL.params]; simp
    refine ⟨M, hM, hps, fun n f => ?_⟩
    -- the round's frame
    have har0 : ARel E φ { fn := L.fn, tm := L.tm, nt := L.nt, marks := [], round := some l } { tmps := M.tmps, defers := [] } := ⟨hL.size, hL.tmps, hL.out, .nil⟩
    have har := fold_put (fr := { fn := L.fn, tm := L.tm, nt := L.nt, marks := [], round := some l }) L.params args vs L.tm { tmps := M.tmps, defers := [] } ha har0
    have htm : (M.params.zip (⟨vs⟩ : Array Value)).foldl (fun tmps (t, a) => tmps.setIfInBounds t a) M.tmps = (L.params.zip vs).foldl (fun tmps (t, v) => tmps.setIfInBounds t v) M.tmps := by
      rw [← Array.foldl_toList, Array.toList_zip, hL.params]
    rw [htm]
    split at h
    · rename_i fr1 s1 h1
      obtain ⟨hr1, hc1⟩ := hrc.code _ _ _ _ _ _ h1
      split at h
      · rename_i L1 ho1
        split at h
        · rename_i hst
          split at h
          · rename_i x fr2 s2 h2
            obtain ⟨hr2, hc2⟩ := hrc.code _ _ _ _ _ _ h2
            split at h
            · rename_i L2 hmk ho2
              simp only [Option.some.injEq, Prod.mk.injEq] at h
              obtain ⟨rfl, rfl⟩ := h
              refine roundIn_of_wpIn trivial ?_
              have hround : RoundRel φ (some l) (some Lc.B) := ⟨Lc, hφ, rfl⟩
              have hwp := hc1 φ w _ (some Lc.B) hw har hround n
              rw [hL.assign]
              refine wpIn_mono hwp ?_
              rintro e a1 w1 ⟨rfl, ψ, hle, hw1, ha1⟩
              -- the round begins
              obtain ⟨M1, hM1, hL1⟩ := hw1.obj _ _ _ ho1 (hle _ _ hφ)
              obtain ⟨w2, k1, k2⟩ := setLoop_sound (P := P) (L1 := { L1 with state := .busy }) hw1 ho1 (hle _ _ hφ) { M1 with state := .busy } ⟨rfl, hL1.pending, hL1.size, hL1.tmps, hL1.out, hL1.params, hL1.assign, hL1.body, hL1.defers⟩
              refine ⟨w2, ?_, ?_⟩
              · simp only [Instr.beginRound, Sem.run_bind, getLoop_run hM1, Result.andThen_ok, k1, hL1.state, hst]
                rfl
              · rw [hL.body]
                have hround1 : RoundRel ψ fr1.round (some Lc.B) := by rw [hr1]; exact hround.mono hle
                refine wpIn_mono (hc2 ψ w2 a1 (some Lc.B) k2 ha1 hround1 n) ?_
                rintro e a2 w3 ⟨rfl, χ, hle2, hw3, ha2⟩
                have hφ3 : χ l = some Lc := hle2 _ _ (hle _ _ hφ)
                obtain ⟨M2, hM2, hL2⟩ := hw3.obj _ _ _ ho2 hφ3
                have hend : ∀ jump : Option Code, ∃ w4, (Instr.endRound Lc.B jump).run P w3 = .ok (.bool jump.isNone) w4 ∧ WRel E χ { s2 with heap := s2.heap.set l (.loop { L2 with state := if jump.isNone then .ready else .done, pending := jump }) } w4 := by
                  intro jump
                  obtain ⟨w4, g1, g2⟩ := setLoop_sound (P := P) (L1 := { L2 with state := if jump.isNone then .ready else .done, pending := jump }) hw3 ho2 hφ3 { M2 with state := if jump.isNone then .ready else .done, pending := jump } ⟨rfl, rfl, hL2.size, hL2.tmps, hL2.out, hL2.params, hL2.assign, hL2.body, hL2.defers⟩
                  exact ⟨w4, by simp only [Instr.endRound, Sem.run_bind, getLoop_run hM2, Result.andThen_ok, g1]; rfl, g2⟩
                cases x with
                | normal =>
                  obtain ⟨w4, g1, g2⟩ := hend none
                  exact ⟨_, w4, g1, χ, _, rfl, Ren.le_trans hle hle2, g2, .c _⟩
                | exit id =>
                  obtain ⟨w4, g1, g2⟩ := hend (some (.exit id))
                  exact ⟨_, w4, g1, χ, _, rfl, Ren.le_trans hle hle2, g2, .c _⟩
                | goto t =>
                  obtain ⟨w4, g1, g2⟩ := hend (some (.goto t))
                  exact ⟨_, w4, g1, χ, _, rfl, Ren.le_trans hle hle2, g2, .c _⟩
                | ret =>
                  obtain ⟨w4, g1, g2⟩ := hend (some .ret)
                  exact ⟨_, w4, g1, χ, _, rfl, Ren.le_trans hle hle2, g2, .c _⟩
            · simp at h
          · simp at h
        · simp at h
      · simp at h
    · simp at h
  · simp at h

end Go.Dm
