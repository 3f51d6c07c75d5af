import Derived.Test.YtbnkomlknlpmmaaGreatDoorDmC2
import Derived.Laws.Tables
/-
  The abstract machine: operations without effect, the third part.
-/
namespace Go.Dm
open Go.RowKit
variable {E : Env} {φ : Ren} {P : Program}

theorem fieldAddrD_sound {t : TypeId} {x d : DV} {v : Value} {f : Nat} (hx : Rel E.σ φ x v) (h : fieldAddrD P t x f = some d) (w : World) : ∃ y, (Instr.fieldAt t v f).run P w = .ok y w ∧ Rel E.σ φ d y := by
  unfold fieldAddrD at h
  split at h
  · rename_i fields b o hu
    cases hx with | ptr hφ =>
    split at h
    · rename_i fd hfd
      split at h
      · rename_i n hn
        simp only [Option.some.injEq] at h; subst h
        refine ⟨_, ?_, .ptr hφ⟩
        simp only [Instr.fieldAt, Sem.run_bind, run_und hu, Result.andThen_ok, hfd, Instr.sureAddr, Sem.run_pure, fieldPlace, run_szOf hn]
        simp [add_addr, Nat.add_assoc]
      · simp at h
    · simp at h
  · simp at h

theorem fieldD_sound {t : TypeId} {x d : DV} {v : Value} {f : Nat} (hx : Rel E.σ φ x v) (h : fieldD P t x f = some d) (w : World) : ∃ y, (Instr.field t v f).run P w = .ok y w ∧ Rel E.σ φ d y := by
  unfold fieldD at h
  split at h
  · rename_i fields cs hu
    cases hx with | agg hc =>
    simp only [Option.bind_eq_some_iff] at h
    obtain ⟨fd, hfd, h⟩ := h
    obtain ⟨y, hy, hr⟩ := part_sound hc h w
    exact ⟨y, by simp [Instr.field, run_und hu, hfd, asAgg, hy], hr⟩
  · rename_i fields cs hu
    cases hx
    simp only [Option.bind_eq_some_iff] at h
    obtain ⟨fd, hfd, h⟩ := h
    obtain ⟨y, hy, hr⟩ := part_sound (RelL.cs cs.toList) h w
    exact ⟨y, by simp at hy; simp [Instr.field, run_und hu, hfd, asAgg, hy], hr⟩
  · simp at h

theorem indexAddrD_sound {t : TypeId} {x ix d : DV} {v i : Value} (hx : Rel E.σ φ x v) (hi : Rel E.σ φ ix i) (h : indexAddrD P t x ix = some d) (w : World) : ∃ y, (Instr.indexAt t v i).run P w = .ok y w ∧ Rel E.σ φ d y := by
  unfold indexAddrD at h
  split at h
  · rename_i n elem b o k j hu
    cases hx with | ptr hφ =>
    cases hi
    split at h
    · rename_i sz hz
      cases hb : Nat.blt j n with
      | false => rw [hb] at h; simp at h
      | true =>
        rw [hb] at h; simp only [cond_true, Option.some.injEq] at h; subst h
        have hlt : j < n := by simpa [Nat.blt_eq] using hb
        refine ⟨_, ?_, .ptr hφ⟩
        have h1 : ((j : Nat) : Int) < (n : Int) := by omega
        simp only [Instr.indexAt, Sem.run_bind, asIntOf, Sem.run_pure, Result.andThen_ok, run_und hu, Instr.sureAddr]
        simp [h1, run_szOf hz, add_addr, Nat.add_assoc]
    · simp at h
  · rename_i elem b o len cp ex sz k j hu
    cases hx with | slice hφ h1 h2 h3 h4 h5 =>
    cases hi
    split at h
    · rename_i z hz
      cases hb : Nat.beq z sz && Nat.blt j len with
      | false => rw [hb] at h; simp at h
      | true =>
        rw [hb] at h; simp only [cond_true, Option.some.injEq] at h; subst h
        simp only [Bool.and_eq_true] at hb
        obtain rfl := Nat.eq_of_beq_eq_true hb.1
        have hlt : j < len := by simpa [Nat.blt_eq] using hb.2
        have hoff : _ = _ := h5.resolve_right (by omega)
        refine ⟨_, ?_, .ptr hφ⟩
        have h1 : ((j : Nat) : Int) < (len : Int) := by omega
        simp only [Instr.indexAt, Sem.run_bind, asIntOf, Sem.run_pure, Result.andThen_ok, run_und hu]
        simp [h1, run_szOf hz, add_addr, Nat.add_assoc, hoff]
    · simp at h
  · simp at h

theorem indexD_sound {t : TypeId} {x ix d : DV} {v i : Value} (hx : Rel E.σ φ x v) (hi : Rel E.σ φ ix i) (h : indexD P t x ix = some d) (w : World) : ∃ y, (Instr.index t v i).run P w = .ok y w ∧ Rel E.σ φ d y := by
  unfold indexD at h
  split at h
  · rename_i n elem cs k j hu
    cases hx with | agg hc =>
    cases hi
    split at h
    · rename_i sz hz
      cases hb : Nat.blt j n with
      | false => rw [hb] at h; simp at h
      | true =>
        rw [hb] at h; simp only [cond_true] at h
        have hlt : j < n := by simpa [Nat.blt_eq] using hb
        obtain ⟨y, hy, hr⟩ := part_sound hc h w
        refine ⟨y, ?_, hr⟩
        have h1 : ((j : Nat) : Int) < (n : Int) := by omega
        simp only [Instr.index, Sem.run_bind, asIntOf, Sem.run_pure, Result.andThen_ok, run_und hu]
        simp [h1, run_szOf hz, hy]
    · simp at h
  · rename_i n elem cs k j hu
    cases hx
    cases hi
    split at h
    · rename_i sz hz
      cases hb : Nat.blt j n with
      | false => rw [hb] at h; simp at h
      | true =>
        rw [hb] at h; simp only [cond_true] at h
        have hlt : j < n := by simpa [Nat.blt_eq] using hb
        obtain ⟨y, hy, hr⟩ := part_sound (RelL.cs cs.toList) h w
        refine ⟨y, ?_, hr⟩
        have h1 : ((j : Nat) : Int) < (n : Int) := by omega
        simp only [Instr.index, Sem.run_bind, asIntOf, Sem.run_pure, Result.andThen_ok, run_und hu]
        simp at hy
        simp [h1, run_szOf hz, hy]
    · simp at h
  · rename_i s k j hu
    cases hx
    cases hi
    simp only [Option.map_eq_some_iff] at h
    obtain ⟨c, hc, rfl⟩ := h
    refine ⟨_, ?_, .c _⟩
    have hlt : j < s.size := by
      have := (List.getElem?_eq_some_iff.1 hc).1
      simpa using this
    have hget : s[j]? = some c := by
      rw [getElem?_pos s j hlt]
      have := (List.getElem?_eq_some_iff.1 hc).2
      simp only [Option.some.injEq]
      rw [← this]
      rfl
    simp only [Instr.index, Sem.run_bind, asIntOf, Sem.run_pure, Result.andThen_ok, run_und hu]
    simp [hget]
  · simp at h

theorem extractD_sound {x d : DV} {v : Value} {i : Nat} (hx : Rel E.σ φ x v) (h : extractD x i = some d) (w : World) : ∃ y, (Instr.extract v i).run P w = .ok y w ∧ Rel E.σ φ d y := by
  unfold extractD at h
  split at h
  · cases hx with | tup hc =>
    obtain ⟨y, hy, hr⟩ := hc.get i d h
    exact ⟨y, by simp [Instr.extract, hy], hr⟩
  · cases hx
    simp only [Option.map_eq_some_iff] at h
    obtain ⟨y, hy, rfl⟩ := h
    exact ⟨y, by simp [Instr.extract, hy], .c _⟩
  · simp at h

theorem lenD_sound {t : TypeId} {x d : DV} {v : Value} {ts : Array TypeId} {ty : TypeId} (ht : ts[0]? = some t) (hx : Rel E.σ φ x v) (h : lenD P t x = some d) (w : World) : ∃ y, (Builtin.len_ ts ty #[v]).run P w = .ok y w ∧ Rel E.σ φ d y := by
  unfold lenD at h
  split at h
  · rename_i hu; cases hx; simp only [Option.some.injEq] at h; subst h; exact ⟨_, by simp [Builtin.len_, ht, run_und hu], .c _⟩
  · rename_i hu; cases hx; simp only [Option.some.injEq] at h; subst h; exact ⟨_, by simp [Builtin.len_, ht, run_und hu], .c _⟩
  · rename_i hu; cases hx; simp only [Option.some.injEq] at h; subst h; exact ⟨_, by simp [Builtin.len_, ht, run_und hu], .c _⟩
  · rename_i hu; simp only [Option.some.injEq] at h; subst h; exact ⟨_, by simp [Builtin.len_, ht, run_und hu], .c _⟩
  · rename_i hu
    split at h
    · rename_i ha
      simp only [Option.some.injEq] at h; subst h; exact ⟨_, by simp [Builtin.len_, ht, run_und hu, run_und ha], .c _⟩
    · simp at h
  · rename_i hu; cases hx; simp only [Option.some.injEq] at h; subst h; exact ⟨_, by simp [Builtin.len_, ht, run_und hu], .c _⟩
  · simp at h

theorem capD_sound {t : TypeId} {x d : DV} {v : Value} {ts : Array TypeId} {ty : TypeId} (ht : ts[0]? = some t) (hx : Rel E.σ φ x v) (h : capD P t x = some d) (w : World) : ∃ y, (Builtin.cap_ ts ty #[v]).run P w = .ok y w ∧ Rel E.σ φ d y := by
  unfold capD at h
  split at h
  · rename_i hu; cases hx with | slice hφ h1 h2 h3 h4 h5 =>
    simp only [Option.some.injEq] at h; subst h
    have := h3 rfl
    subst this
    exact ⟨_, by simp [Builtin.cap_, ht, run_und hu], .c _⟩
  · rename_i hu; cases hx; simp only [Option.some.injEq] at h; subst h; exact ⟨_, by simp [Builtin.cap_, ht, run_und hu], .c _⟩
  · rename_i hu; simp only [Option.some.injEq] at h; subst h; exact ⟨_, by simp [Builtin.cap_, ht, run_und hu], .c _⟩
  · simp at h

theorem assertD_sound {x d : DV} {v : Value} {xt t : TypeId} {ok : Bool} (hx : Rel E.σ φ x v) (h : assertD P x t ok = some d) (w : World) : ∃ y, (Instr.typeAssert v xt t ok).run P w = .ok y w ∧ Rel E.σ φ d y := by
  have zero : ∀ {d : DV}, ((P.info? t).bind (·.zero)).map (fun z => DV.tup [.c z, .c (.bool false)]) = some d → ∃ z, (zeroValue t).run P w = .ok z w ∧ d = .tup [.c z, .c (.bool false)] := by
    intro d hd
    simp only [Option.map_eq_some_iff] at hd
    obtain ⟨z, hz, rfl⟩ := hd
    exact ⟨z, run_zeroOf hz w, rfl⟩
  have rz : ∀ z : Value, Rel E.σ φ (.tup [.c z, .c (.bool false)]) (.tuple #[z, .bool false]) := fun z => .tup (.cons (.c z) (.cons (.c _) .nil))
  unfold assertD at h
  split at h
  · rename_i want u p hu
    cases hx with | iface hp =>
    split at h
    · rename_i i hi
      split at h
      · rename_i hm
        simp only [Option.some.injEq] at h; subst h
        cases ok
        · exact ⟨_, by simp [Instr.typeAssert, run_und hu, typeInfo, hi, hm], .iface hp⟩
        · exact ⟨_, by simp [Instr.typeAssert, run_und hu, typeInfo, hi, hm], .tup (.cons (.iface hp) (.cons (.c _) .nil))⟩
      · rename_i m hm
        cases ok
        · simp at h
        · simp only [if_true] at h
          obtain ⟨z, hz, rfl⟩ := zero h
          exact ⟨_, by simp [Instr.typeAssert, run_und hu, typeInfo, hi, hm, hz], rz z⟩
    · simp at h
  · rename_i want hu
    cases hx
    cases ok
    · simp at h
    · simp only [if_true] at h
      obtain ⟨z, hz, rfl⟩ := zero h
      exact ⟨_, by simp [Instr.typeAssert, run_und hu, hz], rz z⟩
  · rename_i dd hno hu
    cases hx
    cases ok
    · simp at h
    · simp only [if_true] at h
      obtain ⟨z, hz, rfl⟩ := zero h
      refine ⟨_, ?_, rz z⟩
      simp only [Instr.typeAssert, Sem.run_bind, run_und hu, Result.andThen_ok]
      cases dd <;> first | (exact absurd rfl (hno _)) | simp [hz]
  · rename_i dd u p hno hu
    cases hx with | iface hp =>
    rename_i pv
    by_cases e : u = t
    · subst e
      rw [if_pos (by simp)] at h
      simp only [Option.some.injEq] at h; subst h
      cases ok
      · refine ⟨pv, ?_, hp⟩
        simp only [Instr.typeAssert, Sem.run_bind, run_und hu, Result.andThen_ok]
        cases dd <;> first | (exact absurd rfl (hno _)) | simp
      · refine ⟨.tuple #[pv, .bool true], ?_, .tup (.cons hp (.cons (.c _) .nil))⟩
        simp only [Instr.typeAssert, Sem.run_bind, run_und hu, Result.andThen_ok]
        cases dd <;> first | (exact absurd rfl (hno _)) | simp
    · rw [if_neg (by simp; exact e)] at h
      cases ok
      · simp at h
      · simp only [if_true] at h
        obtain ⟨z, hz, rfl⟩ := zero h
        refine ⟨_, ?_, rz z⟩
        simp only [Instr.typeAssert, Sem.run_bind, run_und hu, Result.andThen_ok]
        cases dd <;> first | (exact absurd rfl (hno _)) | simp [e, hz]
  · simp at h

end Go.Dm
