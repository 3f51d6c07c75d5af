import Derived.Test.YtbnkomlknlpmmaaGreatDoorDmE5
/-
  The abstract machine: append, copy, maps, and all that changes memory.
-/
namespace Go.Dm
open Go.RowKit
variable {E : Env} {φ : Ren} {P : Program} {s : St} {w : World}

theorem notInt_of {d : TypeDesc} (h : ∀ k, d = .int k → False) : ∀ k, d ≠ .int k := fun k e => h k e

theorem zeroFits_spec {i : TypeInfo} (h : zeroFits i = true) : ∃ z, i.zero = some z ∧ z.cells.size = i.size := by
  unfold zeroFits at h
  split at h
  · rename_i z hz; exact ⟨z, hz, Nat.eq_of_beq_eq_true h⟩
  · simp at h

theorem appendD_sound (h : WRel E φ s w) {t u ty : TypeId} {x y d : DV} {xv yv : Value} {s' : St} (hx : Rel E.σ φ x xv) (hy : Rel E.σ φ y yv) (hs : appendD P [t, u] x y s = some (d, s')) :
    ∃ v w' ψ, (Builtin.append_ #[t, u] ty #[xv, yv]).run P w = .ok v w' ∧ φ.le ψ ∧ WRel E ψ s' w' ∧ Rel E.σ ψ d v := by
  unfold appendD at hs
  simp only at hs
  split at hs
  · simp at hs
  · rename_i elem du hno ht hu
    split at hs
    · simp at hs
    · rename_i i hi
      cases hc : Nat.ble 1 i.size && Nat.ble i.bytes 65536 && zeroFits i with
      | false => rw [hc] at hs; simp at hs
      | true =>
      rw [hc] at hs
      simp only [cond_true, Option.bind_eq_some_iff] at hs
      simp only [Bool.and_eq_true] at hc
      obtain ⟨⟨c1, c2⟩, c3⟩ := hc
      have c1 := Nat.le_of_ble_eq_true c1
      have c2 := Nat.le_of_ble_eq_true c2
      obtain ⟨z, hz, hzs⟩ := zeroFits_spec c3
      obtain ⟨k, hk, new, hnew, hs⟩ := hs
      cases hc2 : Nat.beq new.length (k * i.size) && new.all DV.one with
      | false => rw [hc2] at hs; simp at hs
      | true =>
      rw [hc2] at hs
      simp only [cond_true] at hs
      simp only [Bool.and_eq_true] at hc2
      have hnl := Nat.eq_of_beq_eq_true hc2.1
      have hni : ∀ q, du ≠ .int q := fun q e => by subst e; exact hno q rfl
      obtain ⟨vs, hrel, hlen, hrun⟩ := src_sound (P := P) h hy hk (Nat.le_refl _) hnew
      have hvl : vs.length = k * i.size := by rw [← hrel.length, hnl]
      unfold appendTo at hs
      split at hs
      · -- nil
        cases hx
        split at hs
        · simp only [Option.some.injEq, Prod.mk.injEq] at hs
          obtain ⟨rfl, rfl⟩ := hs
          exact ⟨_, w, φ, run_append_nothing ht hi hu hni hlen (hrun w rfl), φ.le_refl, h, .c _⟩
        · rename_i k
          cases hk6 : Nat.ble (k + 1) 65536 with
          | false => rw [hk6] at hs; simp at hs
          | true =>
          rw [hk6] at hs
          simp only [cond_true, Option.some.injEq, Prod.mk.injEq] at hs
          obtain ⟨rfl, rfl⟩ := hs
          have hk6 := Nat.le_of_ble_eq_true hk6
          obtain ⟨cap, hcd⟩ : ∃ c, c = grownCap w (0 + (k + 1)) 0 elem := ⟨_, rfl⟩
          have hcap : k + 1 ≤ cap := by
            rw [hcd]
            show k + 1 ≤ (0 + (k + 1)) + _
            omega
          have hrun' := run_append_grows (ty := ty) (base := none) (sLen := 0) (sCap := 0) (olds := []) ht hi hz hu hni hlen rfl (hrun w.drew rfl) (by omega) (by omega) c2
          rw [← hcd] at hrun'
          obtain ⟨g1, g2, g3⟩ := newRow_sound (rest := Builtin.zeroCells z.cells (cap - (0 + (k + 1)))) h.drew hrel elem
          have he : ((⟨[]⟩ : Array Value) ++ ⟨vs⟩ ++ Builtin.zeroCells z.cells (cap - (0 + (k + 1)))) = ⟨vs⟩ ++ Builtin.zeroCells z.cells (cap - (0 + (k + 1))) := by
            congr 1
            exact Array.empty_append
          rw [he] at hrun'
          refine ⟨_, _, _, hrun', g2, g1, ?_⟩
          rw [g3, Nat.zero_add]
          refine .slice (l := ⟨w.drew.heap.size, 0, _, s.next⟩) (Ren.upd_self _ _ _) (Nat.le_refl _) hcap (fun e => by cases e) ?_ (.inl rfl)
          simp only [size_zeroCells, hzs, hvl]
          rw [← Nat.add_mul]
          rw [Nat.zero_add]
          exact Nat.mul_le_mul_right _ (by omega)
      · -- a slice
        rename_i bl o len cp ex zz
        cases hx with | slice hφ h1 h2 h3 h4 h5 =>
        rename_i L off cp'
        cases hc3 : Nat.beq zz i.size && Nat.ble (len + k) 65536 with
        | false => rw [hc3] at hs; simp at hs
        | true =>
        rw [hc3] at hs
        simp only [cond_true] at hs
        simp only [Bool.and_eq_true] at hc3
        have hzz := Nat.eq_of_beq_eq_true hc3.1
        subst hzz
        have h63 := Nat.le_of_ble_eq_true hc3.2
        cases hc4 : Nat.ble (len + k) cp with
        | true =>
          rw [hc4] at hs
          simp only [cond_true, Option.map_eq_some_iff, Prod.mk.injEq] at hs
          obtain ⟨s1, hw, rfl, rfl⟩ := hs
          have hle := Nat.le_of_ble_eq_true hc4
          rcases h5 with rfl | h5
          · obtain ⟨w', k1, k2⟩ := write_sound (P := P) h hφ hrel hw
            refine ⟨_, w', φ, run_append_place ht hi hu hni hlen (hrun w rfl) (Nat.le_trans hle h2) (by rw [add_addr, Nat.add_assoc]; exact k1), φ.le_refl, k2, ?_⟩
            exact .slice hφ hle h2 h3 h4 (.inl rfl)
          · -- no capacity: nothing is appended
            have hk0 : k = 0 := by omega
            have hl0 : len = 0 := by omega
            subst hk0 hl0
            have hv0 : vs = [] := List.eq_nil_of_length_eq_zero (by rw [hvl]; simp)
            have hn0 : new = [] := List.eq_nil_of_length_eq_zero (by rw [hnl]; simp)
            subst hv0 hn0
            have hws : WRel E φ s1 w := by
              obtain ⟨w', k1, k2⟩ := write_sound (P := P) h hφ (.nil : RelL E.σ φ [] []) hw
              have : (storeCells (⟨L.B, L.D + (o + 0 * i.size), none⟩ : Addr) []).run P w = .ok () w := rfl
              rw [this] at k1
              injection k1 with _ k1
              rw [k1]; exact k2
            refine ⟨_, w, φ, run_append_place (w' := w) ht hi hu hni hlen (hrun w rfl) (Nat.le_trans hle h2) rfl, φ.le_refl, hws, ?_⟩
            exact .slice hφ hle h2 h3 h4 (.inr h5)
        | false =>
          rw [hc4] at hs
          simp only [cond_false] at hs
          have hgt : cp < len + k := by
            rcases Nat.lt_or_ge cp (len + k) with g | g
            · exact g
            · exact absurd (Nat.ble_eq_true_of_le g) (by rw [hc4]; simp)
          exact growD_sound h hφ h1 h2 h3 h4 h5 hrel hnl hc2.2 hgt ht hi rfl c1 hz hzs hu hni h63 c2 hlen (hrun w rfl) (hrun w.drew rfl) hs
      · simp at hs
  · simp at hs

theorem copyD_sound (h : WRel E φ s w) {t u ty : TypeId} {x y d : DV} {xv yv : Value} {s' : St} (hx : Rel E.σ φ x xv) (hy : Rel E.σ φ y yv) (hs : copyD P [t, u] x y s = some (d, s')) :
    ∃ v w' ψ, (Builtin.copy_ #[t, u] ty #[xv, yv]).run P w = .ok v w' ∧ φ.le ψ ∧ WRel E ψ s' w' ∧ Rel E.σ ψ d v := by
  unfold copyD at hs
  simp only at hs
  split at hs
  · rename_i elem hu
    split at hs
    · rename_i z hz
      simp only [Option.bind_eq_some_iff] at hs
      obtain ⟨k, hk, hs⟩ := hs
      have first0 : (Builtin.firstCells z 0 yv).run P w = .ok #[] w ∧ ∀ w', (Builtin.lenOf yv).run P w' = .ok k w' := by
        cases hy with
        | c v =>
          cases yv <;> simp only [srcLen, reduceCtorEq] at hk
          · rename_i bs
            simp only [Option.some.injEq] at hk; subst hk
            refine ⟨?_, fun _ => rfl⟩
            simp [Builtin.firstCells]
          · rename_i a0 n c0
            cases a0 with
            | none => simp only [Option.some.injEq] at hk; subst hk; exact ⟨rfl, fun _ => rfl⟩
            | some a0 => simp at hk
        | slice hφ h1 h2 h3 h4 h5 =>
          simp only [srcLen, Option.some.injEq] at hk
          subst hk
          refine ⟨?_, fun _ => rfl⟩
          simp only [Builtin.firstCells, Nat.zero_mul]
          rfl
        | _ => simp [srcLen] at hk
      split at hs
      · cases hx
        simp only [Option.some.injEq, Prod.mk.injEq] at hs
        obtain ⟨rfl, rfl⟩ := hs
        refine ⟨goInt 0, w, φ, ?_, φ.le_refl, h, .c _⟩
        simp [Builtin.copy_, run_und hu, first0.2, run_szOf hz, first0.1]
      · rename_i b o len cp ex sz
        cases hx with | slice hφ h1 h2 h3 h4 h5 =>
        rename_i L off cp'
        cases hb : Nat.beq z sz with
        | false => rw [hb] at hs; simp at hs
        | true =>
        obtain rfl := Nat.eq_of_beq_eq_true hb
        rw [hb] at hs
        simp only [cond_true, Option.bind_eq_some_iff] at hs
        obtain ⟨new, hnew, hs⟩ := hs
        cases hb2 : Nat.beq new.length (Nat.min k len * z) with
        | false => rw [hb2] at hs; simp at hs
        | true =>
        rw [hb2] at hs
        simp only [cond_true] at hs
        have hnl := Nat.eq_of_beq_eq_true hb2
        obtain ⟨vs, hrel, hlen, hrun⟩ := src_sound (P := P) h hy hk (Nat.min_le_left _ _) hnew
        have hrun := hrun w rfl
        split at hs
        · simp only [Option.some.injEq, Prod.mk.injEq] at hs
          obtain ⟨rfl, rfl⟩ := hs
          cases hrel
          refine ⟨goInt (Nat.min k len), w, φ, ?_, φ.le_refl, h, .c _⟩
          simp only [Builtin.copy_, Sem.run_bind, run_und hu, hlen, Result.andThen_ok, run_szOf hz, List.getElem?_toArray, List.getElem?_cons_zero, List.getElem?_cons_succ, hrun]
          rfl
        · rename_i d0 new'
          simp only [Option.map_eq_some_iff, Prod.mk.injEq] at hs
          obtain ⟨s1, hw, rfl, rfl⟩ := hs
          have hpos : 0 < Nat.min k len := by
            rcases Nat.eq_zero_or_pos (Nat.min k len) with e | e
            · rw [e] at hnl; simp at hnl
            · exact e
          have hlen0 : 0 < len := Nat.lt_of_lt_of_le hpos (Nat.min_le_right _ _)
          have hoff : off = L.D + o := h5.resolve_right (by omega)
          subst hoff
          obtain ⟨w', k1, k2⟩ := write_sound (P := P) h hφ hrel hw
          refine ⟨goInt (Nat.min k len), w', φ, ?_, φ.le_refl, k2, .c _⟩
          simp only [Builtin.copy_, Sem.run_bind, run_und hu, hlen, Result.andThen_ok, run_szOf hz, List.getElem?_toArray, List.getElem?_cons_zero, List.getElem?_cons_succ, hrun, k1]
          rfl
      · simp at hs
    · simp at hs
  · simp at hs

end Go.Dm
