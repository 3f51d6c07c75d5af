import Derived.Test.YtbnkomlknlpmmaaGreatDoorDmB
import Derived.Laws.Build
import Derived.Laws.Append
import Derived.Laws.MakeOwn
/-
  The abstract machine: operations without effect.
-/
namespace Go.Dm
open Go.RowKit
variable {E : Env} {φ : Ren} {P : Program}

theorem pureRun_run {α : Type} : ∀ {s : Sem α} {a : α}, pureRun P s = some a → ∀ w, s.run P w = .ok a w := by
  intro s
  induction s with
  | pure x => intro a h w; simp only [pureRun, Option.some.injEq] at h; subst h; rfl
  | program k ih => intro a h w; exact ih _ h w
  | mark m k ih => intro a h w; exact ih h w
  | _ => intro a h; simp [pureRun] at h

theorem run_und {t : TypeId} {d : TypeDesc} (h : P.underlying t = some d) (w : World) : (underlying t).run P w = .ok d w := run_underlying h w

theorem run_szOf {t : TypeId} {n : Nat} (h : szOf P t = some n) (w : World) : (sizeOf t).run P w = .ok n w := by
  unfold szOf at h
  simp only [Option.map_eq_some_iff] at h
  obtain ⟨i, hi, rfl⟩ := h
  simp [sizeOf, typeInfo, hi]

theorem run_aggOf {t : TypeId} {r : Bool} (h : aggOf P t = some r) (w : World) : (isAgg t).run P w = .ok r w := by
  unfold aggOf at h
  split at h
  · rename_i fs hu; simp only [Option.some.injEq] at h; subst h; simp [isAgg, run_und hu]
  · rename_i a b hu; simp only [Option.some.injEq] at h; subst h; simp [isAgg, run_und hu]
  · rename_i d hs ha hu
    simp only [Option.some.injEq] at h; subst h
    simp only [isAgg, Sem.run_bind, run_und hu, Result.andThen_ok]
    cases d <;> first | rfl | exact absurd rfl (hs _) | exact absurd rfl (ha _ _)
  · simp at h

theorem run_zeroOf {t : TypeId} {z : Value} (h : (P.info? t).bind (·.zero) = some z) (w : World) : (zeroValue t).run P w = .ok z w := by
  simp only [Option.bind_eq_some_iff] at h
  obtain ⟨i, hi, hz⟩ := h
  simp [zeroValue, typeInfo, hi, hz]

theorem part_sound {t : TypeId} {cs : List DV} {cs' : List Value} {off : Nat} {d : DV} (hc : RelL E.σ φ cs cs') (h : partD P t cs off = some d) (w : World) :
    ∃ x, (part t ⟨cs'⟩ off).run P w = .ok x w ∧ Rel E.σ φ d x := by
  unfold partD at h
  split at h
  · rename_i ha
    simp only [Option.bind_eq_some_iff, Option.some.injEq] at h
    obtain ⟨n, hn, rfl⟩ := h
    refine ⟨.agg ⟨(cs'.drop off).take n⟩, ?_, .agg ((hc.drop off).take n)⟩
    simp only [part, Sem.run_bind, run_aggOf ha, Result.andThen_ok, if_true, run_szOf hn]
    simp only [Sem.run_pure]
    congr 3
    simp [List.extract_eq_take_drop]
  · rename_i ha
    obtain ⟨y, hy, hr⟩ := hc.get off d h
    refine ⟨y, ?_, hr⟩
    simp only [part, Sem.run_bind, run_aggOf ha, Result.andThen_ok]
    simp [hy]
  · simp at h

/-! ### Comparing -/
theorem eqIn_sound (n : Nat) {t : TypeId} {a b : DV} {x y : Value} {r : Bool} (ha : Rel E.σ φ a x) (hb : Rel E.σ φ b y) (h : eqD P t a b = some r) (w : World) :
    (Op.equalIn (n + 1) t x y).run P w = .ok r w := by
  unfold eqD at h
  split at h
  case h_3 e p o q u hu =>
    split at h
    · rename_i m hm
      cases hpq : Nat.beq p q with
      | false => rw [hpq] at h; simp at h
      | true =>
        rw [hpq] at h; simp only [cond_true, Option.some.injEq] at h; subst h
        have : p = q := Nat.eq_of_beq_eq_true hpq
        subst this
        cases ha with | ptr h1 => cases hb with | ptr h2 =>
        rw [h1] at h2; obtain rfl := Option.some.inj h2
        simp only [Op.equalIn, Sem.run_bind, run_und hu, Result.andThen_ok, run_szOf hm]
        by_cases e : o = u
        · subst e; simp [sameAddr]
        · simp [sameAddr, PM.beqd, e]
    · simp at h
  case h_13 => simp at h
  all_goals
    rename_i hu
    cases ha; cases hb
    simp only [Option.some.injEq] at h; subst h
    simp only [Op.equalIn, Sem.run_bind, run_und hu, Result.andThen_ok]
    rfl

theorem eqD_sound {t : TypeId} {a b : DV} {x y : Value} {r : Bool} (ha : Rel E.σ φ a x) (hb : Rel E.σ φ b y) (h : eqD P t a b = some r) (w : World) :
    (Op.equal t x y).run P w = .ok r w := eqIn_sound 9999 ha hb h w

theorem eqD_guard {t : TypeId} {a b : DV} {x y : Value} {r : Bool} (ha : Rel E.σ φ a x) (hb : Rel E.σ φ b y) (h : eqD P t a b = some r) (op : BinOp) (ox oy : Operand) (w : World) :
    (eqGuard op t ox oy x y).run P w = .ok () w := by
  unfold eqD at h
  split at h
  case h_13 => simp at h
  all_goals (cases ha; cases hb; cases op <;> rfl)

theorem eqD_op {t : TypeId} {a b : DV} {x y : Value} {r : Bool} (ha : Rel E.σ φ a x) (hb : Rel E.σ φ b y) (h : eqD P t a b = some r) :
    Go.binOp .eql t x y = (do pure (.bool (← Op.equal t x y))) ∧ Go.binOp .neq t x y = (do pure (.bool (!(← Op.equal t x y)))) := by
  unfold eqD at h
  split at h
  case h_13 => simp at h
  all_goals (cases ha; cases hb; exact ⟨rfl, rfl⟩)

theorem binD_sound {op : BinOp} {t : TypeId} {ox oy : Operand} {a b d : DV} {x y : Value} (ha : Rel E.σ φ a x) (hb : Rel E.σ φ b y) (h : binD P op t ox oy a b = some d) (w : World) :
    ∃ v, (do eqGuard op t ox oy x y; Go.binOp op t x y : Sem Value).run P w = .ok v w ∧ Rel E.σ φ d v := by
  unfold binD at h
  split at h
  · rename_i u v hu hv
    simp only [Option.map_eq_some_iff] at h
    obtain ⟨r, hr, rfl⟩ := h
    rw [ha.toV_eq hu, hb.toV_eq hv]
    exact ⟨r, pureRun_run hr w, .c r⟩
  · cases op <;> simp only [Option.map_eq_some_iff, reduceCtorEq] at h
    · obtain ⟨r, hr, rfl⟩ := h
      refine ⟨.bool r, ?_, .c _⟩
      rw [Sem.run_bind, eqD_guard ha hb hr, Result.andThen_ok, (eqD_op ha hb hr).1]
      simp [eqD_sound ha hb hr w]
    · obtain ⟨r, hr, rfl⟩ := h
      refine ⟨.bool (!r), ?_, .c _⟩
      rw [Sem.run_bind, eqD_guard ha hb hr, Result.andThen_ok, (eqD_op ha hb hr).2]
      simp [eqD_sound ha hb hr w]

/-! ### Slices, fields, elements -/
theorem bound_sound {d : DV} {v : Value} {y y' i : Nat} (hd : Rel E.σ φ d v) (h : boundD d y = some i) (hy : y ≤ y') (code : BoundsCode) (w : World) :
    (Instr.sliceBound v y' code).run P w = .ok i w ∧ i ≤ y := by
  unfold boundD at h
  split at h
  · rename_i k j
    cases hd
    cases hb : Nat.ble j y with
    | false => rw [hb] at h; simp at h
    | true =>
      rw [hb] at h; simp only [cond_true, Option.some.injEq] at h; subst h
      have hle : j ≤ y := Nat.le_of_ble_eq_true hb
      refine ⟨?_, hle⟩
      have h1 : ((Int.ofNat j) : Int) ≤ (y' : Int) := by simp; omega
      simp [Instr.sliceBound, asIntOf]
      omega
  · simp at h

end Go.Dm
