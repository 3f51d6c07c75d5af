import Derived.Test.YtbnkomlknlpmmaaGreatDoorDmF2
/-
  The abstract machine: one operation, regions in the order of the text, calls.
-/
namespace Go.Dm
open Go.RowKit
variable {E : Env} {φ : Ren} {P : Program} {s : St} {w : World} {T : Tab} {rc : Rec} {N : Nat}

theorem wanted_sound {ops : Array Oper} {fr : Fr} {a : Act} {o : Oper} {b : Bool} (ha : ARel E φ fr a) (h : wantedD ops fr o = some b) : Region.wanted o (yielded ops a.tmps) = b := by
  unfold wantedD at h
  unfold Region.wanted
  cases hg : o.guard with
  | none => rw [hg] at h; simpa using h
  | some jw =>
    obtain ⟨j, want⟩ := jw
    rw [hg] at h
    dsimp only at h ⊢
    unfold yielded
    cases hd : (ops[j]?).bind (·.dst) with
    | none => rw [hd] at h; simp only [Option.some.injEq] at h; subst h; rfl
    | some t =>
      rw [hd] at h
      dsimp only at h
      simp only [Option.bind_some]
      by_cases ht : (t : Nat) < fr.nt
      · rw [show Nat.blt t fr.nt = true by simpa [Nat.blt_eq] using ht] at h
        simp only [cond_true] at h
        have hr := ha.evalTmp t
        have hget : a.tmps[t]? = some (a.tmps.getD t undef) := by
          have : t < a.tmps.size := by rw [ha.size]; exact ht
          simp [Array.getD_eq_getD_getElem?, Array.getElem?_eq_getElem this]
        rw [hget]
        split at h
        · rename_i q hq
          rw [hq] at hr
          generalize a.tmps.getD t undef = v at hr
          cases hr
          simp only [Option.some.injEq] at h
          subst h
          cases q <;> cases want <;> rfl
        · rename_i v hno hq
          rw [hq] at hr
          generalize a.tmps.getD t undef = v' at hr
          cases hr
          simp only [Option.some.injEq] at h
          subst h
          cases v <;> first | rfl | exact absurd rfl (hno _)
        · simp at h
      · rw [show Nat.blt t fr.nt = false by rw [Bool.eq_false_iff]; simpa [Nat.blt_eq] using ht] at h
        simp only [cond_false, undefD, Option.some.injEq] at h
        subst h
        have : a.tmps[t]? = none := Array.getElem?_eq_none (by rw [ha.size]; exact Nat.le_of_not_lt ht)
        rw [this]
        rfl

theorem about_any (o : Oper) (a : Act) (w : World) (r : Option Nat) : ∀ f, o.about P w a.eval = some f → (Fw r).fn f := fun _ _ => trivial

/-- A call's target, met. -/
theorem tgt_sound (hrc : RecOK E P N rc) (hN : NoCount P) {o : Oper} {ρ : Operand → DV} {ρ' : Operand → Value} {a : Act} {t : Tgt} {d : DV} {s' : St} (hw : WRel E φ s w) (hρ : ∀ x, Rel E.σ φ (ρ x) (ρ' x)) (he : ∀ x ∈ o.op.operands, a.eval x = ρ' x) (ht : callTgt P o.op ρ = some t) (h : tgtStep rc t s = some (d, s')) (r : Option Nat) (n : Nat)
    (K : Act → World → Prop) (Q : Exit → Act → World → Prop) (hK : ∀ ψ x w', φ.le ψ → WRel E ψ s' w' → Rel E.σ ψ d x → K (a.put o.dst x) w') : o.wpIn (Fw r) n P a w K Q := by
  obtain ⟨dst, op, type, pos, after, guard⟩ := o
  dsimp only at ht hK he
  refine ⟨about_any _ _ _ _, ?_⟩
  -- it is a call
  have hcall : ∃ c, op = .call c := by
    unfold callTgt at ht
    split at ht
    · exact ⟨_, rfl⟩
    · exact ⟨_, rfl⟩
    · simp at ht
  have hnd : ∀ c, (Oper.mk dst op type pos after guard).op ≠ .defer c := by obtain ⟨c, rfl⟩ := hcall; intro c hc; cases hc
  have hns : ∀ cs b, (Oper.mk dst op type pos after guard).op ≠ .select cs b := by obtain ⟨c, rfl⟩ := hcall; intro c b hc; cases hc
  -- what the run of the operation is
  have enter : ∀ (f : FuncId) (args : List DV) (us : List Value), t = .fn f args → RelL E.σ φ args us → (∀ fn, P.funcs[f]? = some fn → fn.body.isSome = true → (execOp ρ' ⟨dst, op, type, pos, after, guard⟩).run P w = .ok (.enter f ⟨us⟩) w) →
      (Oper.uponIn (Fw r) n P ⟨dst, op, type, pos, after, guard⟩ a K Q ((Oper.semAt (Fw r).round a.eval ⟨dst, op, type, pos, after, guard⟩).run P w)) := by
    intro f args us e hrel hrun
    subst e
    obtain ⟨⟨fn, hf, hb⟩, hcs⟩ := hrc.call f args s d s' h
    rw [show (Fw r).round = r from rfl, Oper.semAt_eq _ _ _ hnd, execOp_congr _ hns he, hrun fn hf hb]
    refine ⟨fun hd => absurd hd (by simp [Fw, Fence.wide]), ?_⟩
    have hc : CallsIn (Fw r) (n - 1) P f ⟨us⟩ w fun e w' => ∃ ψ x, e = .returned x ∧ φ.le ψ ∧ WRel E ψ s' w' ∧ Rel E.σ ψ d x := hcs φ w us hw hrel (n - 1)
    refine hc.mono ?_
    rintro e w' ⟨ψ, x, rfl, h1, h2, h3⟩
    exact hK ψ x w' h1 h2 h3
  unfold callTgt at ht
  split at ht
  · rename_i f args argTypes
    have hv := hρ f
    have hargs := RelL.map hρ args.toList
    have harr : args.map ρ' = ⟨args.toList.map ρ'⟩ := by apply Array.ext'; simp
    have hft := funcTgt_sound hN hv hargs ht
    cases t with
    | fn g l =>
      obtain ⟨us, h1, h2⟩ := hft
      refine enter g l us rfl h1 fun fn hf hb => ?_
      obtain ⟨dd, k1, k2, _⟩ := h2 fn hf hb w
      simp only [execOp, Sem.run_bind, resolve, harr, k1, Result.andThen_ok, k2]
    | yield l xs =>
      obtain ⟨Lc, h1, h2, h3⟩ := hft
      obtain ⟨M, hM, hps, hround⟩ := round_sound hrc h hw h1 h2
      have hrun : (execOp ρ' ⟨dst, .call { callee := .value f, args, argTypes }, type, pos, after, guard⟩).run P w =
          .ok (.round Lc.B M.fn ((M.params.zip (⟨args.toList.map ρ'⟩ : Array Value)).foldl (fun tmps (t, a) => tmps.setIfInBounds t a) M.tmps) M.assign M.body) w := by
        simp only [execOp, Sem.run_bind, resolve, harr, h3, Deferred.ofValue, Sem.run_pure, Result.andThen_ok, invoke]
        have he0 : (#[] ++ (⟨args.toList.map ρ'⟩ : Array Value)) = ⟨args.toList.map ρ'⟩ := by simp
        rw [he0]
        simp only [Instr.yield, Sem.run_bind, getLoop_run hM, Result.andThen_ok]
        rw [if_neg (by simp only [List.size_toArray]; omega)]
        rfl
      rw [show (Fw r).round = r from rfl, Oper.semAt_eq _ _ _ hnd, execOp_congr _ hns he, hrun]
      refine ⟨fun hd => absurd hd (by simp [Fw, Fence.wide]), ?_⟩
      have hc : RoundIn (Fw r) (n - 1) P Lc.B M.fn ((M.params.zip (⟨args.toList.map ρ'⟩ : Array Value)).foldl (fun tmps (t, a) => tmps.setIfInBounds t a) M.tmps) M.assign M.body w fun e w' => ∃ ψ x, e = .returned x ∧ φ.le ψ ∧ WRel E ψ s' w' ∧ Rel E.σ ψ d x := hround (n - 1) M.fn
      refine hc.mono ?_
      rintro e w' ⟨ψ, x, rfl, k1, k2, k3⟩
      exact hK ψ x w' k1 k2 k3
  · rename_i rcv name args argTypes
    have hargs := RelL.map hρ args.toList
    have harr : args.map ρ' = ⟨args.toList.map ρ'⟩ := by apply Array.ext'; simp
    have hft := methodTgt_sound hN (hρ rcv) hargs ht
    cases t with
    | fn g l =>
      obtain ⟨us, h1, h2⟩ := hft
      refine enter g l us rfl h1 fun fn hf hb => ?_
      have e2 : (#[ρ' rcv] ++ (⟨args.toList.map ρ'⟩ : Array Value)).extract 1 (#[ρ' rcv] ++ (⟨args.toList.map ρ'⟩ : Array Value)).size = ⟨args.toList.map ρ'⟩ := by
        apply Array.ext'
        simp
        exact List.take_of_length_le (by simp)
      simp only [execOp, Sem.run_bind, resolve, harr, Sem.run_pure, Result.andThen_ok, invoke]
      rw [e2]
      have e1 : (#[ρ' rcv] ++ (⟨args.toList.map ρ'⟩ : Array Value))[0]? = some (ρ' rcv) := by simp
      rw [e1]
      exact h2 fn hf hb w
    | yield l xs => exact hft.elim
  · simp at ht

theorem value_not {o : Oper} {ρ : Operand → Value} {w w' : World} {x : Next} (h : (execOp ρ o).run P w = .ok x w') (hx : (∃ v, x = .value v) ∨ x = .skip) : (∀ c, o.op ≠ .defer c) ∧ (∀ cs b, o.op ≠ .select cs b) := by
  refine ⟨fun c hc => ?_, fun cs b hc => ?_⟩
  · simp only [execOp, hc, Sem.run_bind] at h
    cases hr : (resolve ρ c o.type).run P w with
    | ok d w1 => rw [hr] at h; simp at h; rcases hx with ⟨v, rfl⟩ | rfl <;> simp at h
    | halt e w1 => rw [hr] at h; simp at h
  · simp only [execOp, hc] at h
    rw [Sem.run_bind] at h
    cases hr : (cs.mapM fun s => (do pure { chan := ρ s.chan, send := s.send.map ρ, zero := ← zeroValue s.elem : CommCase } : Sem CommCase)).run P w with
    | ok d w1 => rw [hr] at h; simp at h; rcases hx with ⟨v, rfl⟩ | rfl <;> simp at h
    | halt e w1 => rw [hr] at h; simp at h

theorem semAt_value_of {o : Oper} {a : Act} {ρ' : Operand → Value} {x : Value} {w w' : World} {r : Option Nat} (he : ∀ x ∈ o.op.operands, a.eval x = ρ' x) (h : (execOp ρ' o).run P w = .ok (.value x) w') : (o.semAt (Fw r).round a.eval).run P w = .ok (.value x) w' := by
  obtain ⟨h1, h2⟩ := value_not h (.inl ⟨x, rfl⟩)
  rw [Oper.semAt_eq _ _ _ h1, execOp_congr _ h2 he]; exact h

theorem semAt_skip_of {o : Oper} {a : Act} {ρ' : Operand → Value} {w w' : World} {r : Option Nat} (he : ∀ x ∈ o.op.operands, a.eval x = ρ' x) (h : (execOp ρ' o).run P w = .ok .skip w') : (o.semAt (Fw r).round a.eval).run P w = .ok .skip w' := by
  obtain ⟨h1, h2⟩ := value_not h (.inr rfl)
  rw [Oper.semAt_eq _ _ _ h1, execOp_congr _ h2 he]; exact h

/-- One operation that is done. -/
theorem step_sound (hrc : RecOK E P N rc) (hT : TabOK E P T) (hN : NoCount P) {o : Oper} {fr : Fr} {a : Act} {ρ' : Operand → Value} {d : DV} {s' : St} (hw : WRel E φ s w) (hρ : ∀ x, Rel E.σ φ (fr.eval x) (ρ' x)) (he : ∀ x ∈ o.op.operands, a.eval x = ρ' x) (h : stepD P T rc o.op fr s = some (d, s')) (r : Option Nat) (n : Nat)
    (K : Act → World → Prop) (Q : Exit → Act → World → Prop) (hK : ∀ ψ x w', φ.le ψ → WRel E ψ s' w' → Rel E.σ ψ d x → K (a.put o.dst x) w') : o.wpIn (Fw r) n P a w K Q := by
  unfold stepD at h
  split at h
  · simp only [Option.map_eq_some_iff, Prod.mk.injEq] at h
    obtain ⟨v, hv, rfl, rfl⟩ := h
    obtain ⟨x, hx, hr⟩ := stillOp_sound hT.toTabOp hw hρ hv
    refine ⟨about_any _ _ _ _, ?_⟩
    rw [semAt_value_of he hx]
    exact hK φ x w φ.le_refl hw hr
  · simp only [Option.map_eq_some_iff, Prod.mk.injEq, Prod.exists] at h
    obtain ⟨v, s1, hv, rfl, rfl⟩ := h
    obtain ⟨w', ψ, hle, hw', hres⟩ := effOp_sound (P := P) hw hρ hv
    refine ⟨about_any _ _ _ _, ?_⟩
    cases v with
    | some d =>
      obtain ⟨x, hx, hr⟩ := hres
      rw [semAt_value_of he hx]
      exact hK ψ x w' hle hw' hr
    | none =>
      rw [semAt_skip_of he (show (execOp ρ' o).run P w = .ok .skip w' from hres)]
      exact hK ψ undef w' hle hw' (.c _)
  · simp only [Option.bind_eq_some_iff] at h
    obtain ⟨t, ht, h⟩ := h
    exact tgt_sound hrc hN hw hρ he ht h r n K Q hK

theorem ops_sound (hrc : RecOK E P N rc) (hT : TabOK E P T) (hN : NoCount P) {ops : Array Oper} (r : Option Nat) (n : Nat) (Q : Exit → Act → World → Prop) :
    ∀ (m i : Nat) (φ : Ren) (fr fr' : Fr) (s s' : St) (a : Act) (w : World), m + i = ops.size → WRel E φ s w → ARel E φ fr a → opsD P T rc ops (ops.toList.drop i) fr s = some (fr', s') →
      (∀ ψ a' w', φ.le ψ → WRel E ψ s' w' → ARel E ψ fr' a' → Q .normal a' w') → wpOpsIn (Fw r) n P ops Q (List.range' i m) a w
  | 0, i, φ, fr, fr', s, s', a, w, hm, hw, ha, h, hQ => by
    rw [List.drop_eq_nil_of_le (by simp; omega)] at h
    simp only [opsD, Option.some.injEq, Prod.mk.injEq] at h
    obtain ⟨rfl, rfl⟩ := h
    exact hQ φ a w φ.le_refl hw ha
  | m + 1, i, φ, fr, fr', s, s', a, w, hm, hw, ha, h, hQ => by
    have hi : i < ops.size := by omega
    rw [List.drop_eq_getElem_cons (by simpa using hi)] at h
    unfold opsD at h
    split at h
    · rename_i fr1 s1 h1
      rw [List.range'_succ, wpOpsIn_cons]
      unfold wpOpIn
      rw [Array.getElem?_eq_getElem hi]
      dsimp only
      have hget : ops.toList[i] = ops[i] := by simp
      rw [hget] at h1
      unfold operD at h1
      split at h1
      · simp at h1
      · rename_i hwd
        simp only [Option.some.injEq, Prod.mk.injEq] at h1
        obtain ⟨rfl, rfl⟩ := h1
        rw [if_neg (by rw [wanted_sound ha hwd]; simp)]
        exact ⟨about_any _ _ _ _, ops_sound hrc hT hN r n Q m (i + 1) φ _ fr' s s' _ w (by omega) hw (ha.put (.c _) _) h hQ⟩
      · rename_i hwd
        simp only [Option.map_eq_some_iff, Prod.mk.injEq, Prod.exists] at h1
        obtain ⟨d, s2, hst, rfl, rfl⟩ := h1
        rw [if_pos (wanted_sound ha hwd)]
        refine step_sound hrc hT hN hw ha.eval (fun _ _ => rfl) hst r n _ Q fun ψ x w' hle hw' hr => ?_
        exact ops_sound hrc hT hN r n Q m (i + 1) ψ _ fr' s2 s' _ w' (by omega) hw' ((ha.mono hle).put hr _) h fun χ a' w'' hle2 h1 h2 => hQ χ a' w'' (Ren.le_trans hle hle2) h1 h2
    · simp at h

theorem put_round (fr : Fr) (dst : Option Tmp) (d : DV) : (fr.put dst d).round = fr.round := by
  unfold Fr.put
  split
  · rename_i t
    cases Nat.blt t fr.nt <;> rfl
  · rfl

theorem ops_round {ops : Array Oper} : ∀ (l : List Oper) (fr fr' : Fr) (s s' : St), opsD P T rc ops l fr s = some (fr', s') → fr'.round = fr.round
  | [], fr, fr', s, s', h => by simp only [opsD, Option.some.injEq, Prod.mk.injEq] at h; rw [← h.1]
  | o :: l, fr, fr', s, s', h => by
    unfold opsD at h
    split at h
    · rename_i fr1 s1 h1
      rw [ops_round l _ _ _ _ h]
      unfold operD at h1
      split at h1
      · simp at h1
      · simp only [Option.some.injEq, Prod.mk.injEq] at h1
        rw [← h1.1, put_round]
      · simp only [Option.map_eq_some_iff, Prod.mk.injEq, Prod.exists] at h1
        obtain ⟨d, s2, _, e, _⟩ := h1
        rw [← e, put_round]
    · simp at h

end Go.Dm
