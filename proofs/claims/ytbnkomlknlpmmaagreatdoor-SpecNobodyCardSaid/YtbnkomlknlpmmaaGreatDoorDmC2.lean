import Derived.Test.YtbnkomlknlpmmaaGreatDoorDmC
/-
  The abstract machine: operations without effect, the second part.
-/
namespace Go.Dm
open Go.RowKit
variable {E : Env} {φ : Ren} {P : Program}

def RelO (E : Env) (φ : Ren) : Option DV → Option Value → Prop
  | none, none => True
  | some d, some v => Rel E.σ φ d v
  | _, _ => False

theorem RelO.map {ρ : Operand → DV} {ρ' : Operand → Value} (hρ : ∀ x, Rel E.σ φ (ρ x) (ρ' x)) : ∀ (o : Option Operand), RelO E φ (o.map ρ) (o.map ρ')
  | none => trivial
  | some x => hρ x

theorem bounds_sound {len cap cap' : Nat} {lo hi mx : Option DV} {lo' hi' mx' : Option Value} {l h m : Nat} (hlo : RelO E φ lo lo') (hhi : RelO E φ hi hi') (hmx : RelO E φ mx mx')
    (hlen : len ≤ cap) (hcap : cap ≤ cap') (hb : boundsD len cap lo hi mx = some (l, h, m)) (is : Bool) (w : World) :
    ∃ m', (Instr.sliceBounds is len cap' lo' hi' mx').run P w = .ok (l, h, m') w ∧ m ≤ m' ∧ (mx.isSome = true → m' = m) ∧ (mx = none → m = cap ∧ m' = cap') ∧ m' ≤ cap' ∧ l ≤ h ∧ h ≤ m ∧ m ≤ cap := by
  unfold boundsD at hb
  simp only [Option.bind_eq_some_iff, Option.some.injEq, Prod.mk.injEq] at hb
  obtain ⟨m0, hm0, h0, hh0, l0, hl0, rfl, rfl, rfl⟩ := hb
  -- the low bound
  have low : ∀ (code : BoundsCode), (match lo' with | some v => Instr.sliceBound v h0 code | none => pure 0).run P w = .ok l0 w ∧ l0 ≤ h0 := by
    intro code
    cases lo with
    | none => cases lo' with
      | none => simp only [Option.some.injEq] at hl0; subst hl0; exact ⟨rfl, Nat.zero_le _⟩
      | some _ => exact hlo.elim
    | some d => cases lo' with
      | none => exact hlo.elim
      | some v => exact bound_sound (P := P) hlo hl0 (Nat.le_refl _) code w
  cases mx with
  | none =>
    cases mx' with
    | some _ => exact hmx.elim
    | none =>
    simp only [Option.some.injEq] at hm0
    subst hm0
    have high : ∀ (code : BoundsCode), (match hi' with | some v => Instr.sliceBound v cap' code | none => pure len).run P w = .ok h0 w ∧ h0 ≤ cap := by
      intro code
      cases hi with
      | none => cases hi' with
        | none => simp only [Option.some.injEq] at hh0; subst hh0; exact ⟨rfl, hlen⟩
        | some _ => exact hhi.elim
      | some d => cases hi' with
        | none => exact hhi.elim
        | some v => exact bound_sound (P := P) hhi hh0 hcap code w
    refine ⟨cap', ?_, hcap, (fun hx => by cases hx), fun _ => ⟨rfl, rfl⟩, Nat.le_refl _, (low .sliceB).2, (high .sliceAcap).2, Nat.le_refl _⟩
    have hL := (low .sliceB).1
    have hH := (high (if is then .sliceAcap else .sliceAlen)).1
    cases hi' with
    | none =>
      simp only [Sem.run_pure, Result.ok.injEq] at hH
      simp only [Instr.sliceBounds, Sem.run_bind, Sem.run_pure, Result.andThen_ok, hH.1]
      cases lo' with
      | none => simp only [Sem.run_pure, Result.ok.injEq] at hL; simp [hL.1]
      | some v => simp only at hL; simp [hL]
    | some u =>
      simp only at hH
      simp only [Instr.sliceBounds, Sem.run_bind, Sem.run_pure, Result.andThen_ok, hH]
      cases lo' with
      | none => simp only [Sem.run_pure, Result.ok.injEq] at hL; simp [hL.1]
      | some v => simp only at hL; simp [hL]
  | some dm =>
    cases mx' with
    | none => exact hmx.elim
    | some vm =>
    simp only at hm0
    obtain ⟨hM, hMle⟩ := bound_sound (P := P) hmx hm0 hcap (if is then .slice3Acap else .slice3Alen) w
    cases hi with
    | none => simp at hh0
    | some dh => cases hi' with
      | none => exact hhi.elim
      | some vh =>
        simp only at hh0
        obtain ⟨hH, hHle⟩ := bound_sound (P := P) hhi hh0 (Nat.le_refl _) .slice3B w
        refine ⟨m0, ?_, Nat.le_refl _, fun _ => rfl, (fun hx => by cases hx), Nat.le_trans hMle hcap, (low .slice3C).2, hHle, hMle⟩
        have hL := (low .slice3C).1
        simp only [Instr.sliceBounds, Sem.run_bind, Result.andThen_ok, hM, hH]
        cases lo' with
        | none => simp only [Sem.run_pure, Result.ok.injEq] at hL; simp [hL.1]
        | some v => simp only at hL; simp [hL]

theorem add_addr (B o n : Nat) : (Addr.mk B o none).add n = ⟨B, o + n, none⟩ := by
  unfold Addr.add
  split
  · rename_i h; subst h; rfl
  · rfl

/-- The slice of a slice, of what is known. -/
theorem reslice {b o cap sz off cap' l h m m' : Nat} {ex mxs : Bool} {L : Loc} (hφ : φ b = some L) (h3 : ex = true → cap' = cap) (h4 : off + cap' * sz ≤ L.N) (h5 : off = L.D + o ∨ cap' = 0)
    (k1 : m ≤ m') (k2 : mxs = true → m' = m) (k3 : mxs = false → m = cap ∧ m' = cap') (k4 : m' ≤ cap') (k5 : l ≤ h) (k6 : h ≤ m) (_k7 : m ≤ cap) :
    Rel E.σ φ (.slice b (o + l * sz) (h - l) (m - l) (cond mxs true ex) sz)
      (.slice (if m' = l then some ⟨L.B, off, none⟩ else some ((Addr.mk L.B off none).add (l * sz))) (h - l) (m' - l)) := by
  have hadd : (if m' = l then some (Addr.mk L.B off none) else some ((Addr.mk L.B off none).add (l * sz))) = some (Addr.mk L.B (if m' = l then off else off + l * sz) none) := by
    split
    · rfl
    · rw [add_addr]
  rw [hadd]
  have hmul : l * sz + (m' - l) * sz = m' * sz := by rw [← Nat.add_mul]; congr 1; omega
  have hle : m' * sz ≤ cap' * sz := Nat.mul_le_mul_right _ k4
  refine .slice hφ (by omega) (by omega) (fun hx => ?_) ?_ ?_
  · cases mxs with
    | true => rw [k2 rfl]
    | false => simp only [cond_false] at hx; have := h3 hx; have := k3 rfl; omega
  · split
    · rename_i e; subst e; simp; omega
    · omega
  · by_cases e : m' = l
    · right; omega
    · left
      rw [if_neg e]
      rcases h5 with h5 | h5
      · omega
      · omega

theorem sliceD_sound {t : TypeId} {x : DV} {v : Value} {lo hi mx : Option DV} {lo' hi' mx' : Option Value} {d : DV} (hx : Rel E.σ φ x v) (hlo : RelO E φ lo lo') (hhi : RelO E φ hi hi') (hmx : RelO E φ mx mx')
    (hs : sliceD P t x lo hi mx = some d) (w : World) : ∃ y, (Instr.sliceAt t v lo' hi' mx').run P w = .ok y w ∧ Rel E.σ φ d y := by
  unfold sliceD at hs
  split at hs
  · rename_i s hu
    cases hx
    cases mx with
    | some _ => simp at hs
    | none => cases mx' with
      | some _ => exact hmx.elim
      | none =>
      simp only [Option.map_eq_some_iff] at hs
      obtain ⟨⟨l, h, m⟩, hb, rfl⟩ := hs
      obtain ⟨m', hr, _, _, h3, _⟩ := bounds_sound (P := P) hlo hhi (show RelO E φ none none from trivial) (Nat.le_refl _) (Nat.le_refl _) hb false w
      refine ⟨.string (s.extract l h), ?_, .c _⟩
      simp [Instr.sliceAt, Instr.slice, run_und hu, hr]
  · rename_i elem b o len cap ex sz hu
    cases hx with | slice hφ h1 h2 h3 h4 h5 =>
    split at hs
    · rename_i z hz
      cases hzz : Nat.beq z sz with
      | false => rw [hzz] at hs; simp at hs
      | true =>
        obtain rfl := Nat.eq_of_beq_eq_true hzz
        rw [hzz] at hs
        simp only [cond_true, Option.map_eq_some_iff] at hs
        obtain ⟨⟨l, h, m⟩, hb, rfl⟩ := hs
        obtain ⟨m', hr, k1, k2, k3, k4, k5, k6, k7⟩ := bounds_sound (P := P) hlo hhi hmx h1 h2 hb true w
        refine ⟨_, ?_, reslice (E := E) hφ h3 h4 h5 k1 k2 (fun hf => k3 (by simpa using hf)) k4 k5 k6 k7⟩
        simp only [Instr.sliceAt, Instr.slice, Sem.run_bind, run_und hu, Result.andThen_ok, hr, run_szOf hz, Sem.run_pure]
        simp only [Option.map_some]
    · simp at hs
  · rename_i elem hu
    cases hx
    split at hs
    case h_2 => simp at hs
    rename_i z hz
    simp only [Option.map_eq_some_iff] at hs
    obtain ⟨⟨l, h, m⟩, hb, rfl⟩ := hs
    obtain ⟨m', hr, k1, k2, k3, k4, k5, k6, k7⟩ := bounds_sound (P := P) hlo hhi hmx (Nat.le_refl _) (Nat.le_refl _) hb true w
    refine ⟨.slice none 0 0, ?_, .c _⟩
    have hm' : m' = 0 := by omega
    have hl : l = 0 := by omega
    have hh : h = 0 := by omega
    subst hm' hl hh
    simp [Instr.sliceAt, Instr.slice, run_und hu, hr, run_szOf hz]
  · simp at hs

end Go.Dm
