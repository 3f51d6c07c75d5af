import Derived.Test.YtbnkomlknlpmmaaGreatDoorDmE4
/-
  The abstract machine: an append that grows, or may grow in place.
-/
namespace Go.Dm
open Go.RowKit
variable {E : Env} {φ : Ren} {P : Program} {s : St} {w : World}

theorem cells_load {L : Loc} {pm : PM DV} {m o n : Nat} (h : CellsAt E φ L w pm m) (hn : o + n ≤ m) :
    ∃ vs : List Value, vs.length = n ∧ (loadCells ⟨L.B, L.D + o, none⟩ n).run P w = .ok ⟨vs⟩ w ∧ ∀ i, i < n → ∃ d x, pm.get (o + i) = some d ∧ vs[i]? = some x ∧ Rel E.σ φ d x := by
  let vs : List Value := (List.range n).map fun j => (w.cell? ⟨L.B, L.D + (o + j), none⟩).getD undef
  have hvl : vs.length = n := by simp [vs]
  have hvg : ∀ j, j < n → ∃ d x, pm.get (o + j) = some d ∧ vs[j]? = some x ∧ w.cell? ⟨L.B, L.D + (o + j), none⟩ = some x ∧ Rel E.σ φ d x := by
    intro j hj
    obtain ⟨d, x, h1, h2, h3, _⟩ := h.cell (i := o + j) (by omega)
    exact ⟨d, x, h1, by simp [vs, hj, h2], h2, h3⟩
  have hcell : ∀ j v, vs[j]? = some v → w.cell? ((⟨L.B, L.D + o, none⟩ : Addr).add j) = some v := by
    intro j v hv
    have hj : j < n := by have := (List.getElem?_eq_some_iff.1 hv).1; omega
    obtain ⟨d, x, _, h2, h3, _⟩ := hvg j hj
    rw [h2] at hv
    obtain rfl := Option.some.inj hv
    rw [add_addr, Nat.add_assoc]; exact h3
  refine ⟨vs, hvl, ?_, fun i hi => let ⟨d, x, h1, h2, _, h4⟩ := hvg i hi; ⟨d, x, h1, h2, h4⟩⟩
  have := run_loadCells_list (P := P) w ⟨L.B, L.D + o, none⟩ vs hcell
  rw [hvl] at this
  simpa using this

/-- What an append gives: the cells of the old slice, then the new ones. -/
theorem grown_cells {base pm : PM DV} {new : List DV} {vs : List Value} {o a k : Nat} {arr : Array Value} {D : Nat} {ψ : Ren} (hle : φ.le ψ) (hrel : RelL E.σ φ new vs) (hk : new.length = k)
    (hb : ∀ i, i < a → base.get i = pm.get (o + i)) (hold : ∀ i, i < a → ∃ d x, pm.get (o + i) = some d ∧ arr[D + i]? = some x ∧ Rel E.σ φ d x) (hnew : ∀ i, i < k → arr[D + a + i]? = vs[i]?) :
    ∀ i, i < a + k → ∃ d x, (setRow base a new).get i = some d ∧ arr[D + i]? = some x ∧ Rel E.σ ψ d x := by
  intro i hi
  rw [get_setRow]
  by_cases g : a ≤ i ∧ i < a + new.length
  · rw [if_pos g]
    have hx : new[i - a]? = some (new[i - a]'(by omega)) := List.getElem?_eq_getElem _
    obtain ⟨y, hy, hr⟩ := hrel.get _ _ hx
    refine ⟨_, y, hx, ?_, hr.mono hle⟩
    have := hnew (i - a) (by omega)
    rw [show D + a + (i - a) = D + i by omega] at this
    rw [this]; exact hy
  · rw [if_neg g, hb i (by omega)]
    obtain ⟨d, x, h1, h2, h3⟩ := hold i (by omega)
    exact ⟨d, x, h1, h2, h3.mono hle⟩

theorem growD_sound (h : WRel E φ s w) {bl o len cp sz k cp' off : Nat} {ex : Bool} {L : Loc} {new : List DV} {vs : List Value} {t u ty elem : TypeId} {i : TypeInfo} {z : Value} {du : TypeDesc} {xv : Value} {d : DV} {s' : St}
    (hφ : φ bl = some L) (h1 : len ≤ cp) (h2 : cp ≤ cp') (h3 : ex = true → cp' = cp) (h4 : off + cp' * sz ≤ L.N) (h5 : off = L.D + o ∨ cp' = 0) (hrel : RelL E.σ φ new vs) (hnl : new.length = k * sz) (hone : new.all DV.one = true) (hgt : cp < len + k)
    (ht : P.underlying t = some (.slice elem)) (hi : P.info? elem = some i) (hsz : i.size = sz) (hsz1 : 1 ≤ sz) (hz : i.zero = some z) (hzs : z.cells.size = sz) (hu : P.underlying u = some du) (hni : ∀ k, du ≠ .int k) (h63 : len + k ≤ 65536) (hby : i.bytes ≤ 65536)
    (hlen : ∀ w', (Builtin.lenOf xv).run P w' = .ok k w') (hnew : (Builtin.firstCells sz k xv).run P w = .ok ⟨vs⟩ w) (hnew' : (Builtin.firstCells sz k xv).run P w.drew = .ok ⟨vs⟩ w.drew)
    (hg : growD bl o len ex sz new k s = some (d, s')) :
    ∃ y w' ψ, (Builtin.append_ #[t, u] ty #[.slice (some ⟨L.B, off, none⟩) len cp', xv]).run P w = .ok y w' ∧ φ.le ψ ∧ WRel E ψ s' w' ∧ Rel E.σ ψ d y := by
  subst hsz
  have hvl : vs.length = k * i.size := by rw [← hrel.length, hnl]
  unfold growD at hg
  split at hg
  · rename_i pm m fam ho
    cases hc : Nat.ble (o + len * i.size) m with
    | false => rw [hc] at hg; simp at hg
    | true =>
    rw [hc] at hg
    simp only [cond_true] at hg
    have hle := Nat.le_of_ble_eq_true hc
    have hcells := h.cells ho hφ
    -- the base of the new block
    split at hg
    · simp at hg
    · rename_i base hbase
      have hb : ∀ j, j < len * i.size → base.get j = pm.get (o + j) := by
        intro j hj
        cases o with
        | zero => simp only [Option.some.injEq] at hbase; subst hbase; simp
        | succ o =>
          simp only [Option.map_eq_some_iff] at hbase
          obtain ⟨l, hl, rfl⟩ := hbase
          have hll := PM.toL_length hl
          rw [PM.get_ofList, if_pos (by omega), PM.toL_get hl j hj]
          simp
      have hmul : (len + k) * i.size = len * i.size + k * i.size := Nat.add_mul _ _ _
      by_cases hplace : len + k ≤ cp'
      · -- in place
        have hex : ex = false := by
          cases ex with
          | false => rfl
          | true => have := h3 rfl; omega
        subst hex
        simp only [Option.some.injEq, Prod.mk.injEq] at hg
        obtain ⟨rfl, rfl⟩ := hg
        have hoff : off = L.D + o := h5.resolve_right (by omega)
        subst hoff
        obtain ⟨t1, t2, t3, t4, _⟩ := touch_sound h ho
        -- the old block cut down
        have hmulle : (len + k) * i.size ≤ cp' * i.size := Nat.mul_le_mul_right _ hplace
        obtain ⟨arr, e, fz, c1, c2, c3, c4, c5⟩ := hcells
        obtain ⟨w', cs', r1, r2, r3, r4, r5, r6, r7, r8, r9⟩ := storeCells_run (P := P) vs 0 L.B (L.D + o + len * i.size) w arr e fz c1 (by omega) (by rw [c2]; exact c3) (hrel.one E.one hone)
        have hs2 : WRel E φ { (s.touch bl fam) with heap := (s.touch bl fam).heap.set bl (.cells pm (o + len * i.size) fam) } w' := by
          refine t1.change (o1 := .cells pm (o + len * i.size) fam) t2 hφ rfl rfl ?_ r5 r6 r2 r3 r4 ?_
          · intro b' o' l' hb' hl hφ' hB
            refine t4 b' o' hb' hl ?_
            have e1 := t1.inj _ _ _ _ hφ' hφ hB
            rw [t1.fam _ _ _ hb' hφ', t1.fam _ _ _ t2 hφ] at e1
            exact e1
          · refine ⟨cs', e, fz, r7, by omega, c3, by omega, fun j hj => ?_⟩
            obtain ⟨dd, x, k1, k2, k3⟩ := c5 j (by omega)
            exact ⟨dd, x, k1, by rw [r9, if_neg (by omega)]; exact k2, k3⟩
        have hfamL : L.fam = fam := t1.fam _ _ _ t2 hφ
        have hmap := hs2.map (L := ⟨L.B, L.D + o, L.N, fam⟩) (o := .cells (setRow base (len * i.size) new) ((len + k) * i.size) fam) (f := fam) (ms := [bl, (s.touch bl fam).next]) (by rw [r5]; exact (h.lt _ _ hφ).2.1) (h.lt _ _ hφ).2.2 rfl rfl
          (by have := (h.hlt _ _ ho).2; simp only [famOf] at this; rw [← t3] at this; exact this)
          (fun b l hb' hB => by rw [← hfamL]; exact h.inj _ _ _ _ hb' hφ hB)
          (by
            have hle2 := Ren.le_upd (φ := φ) ⟨L.B, L.D + o, L.N, fam⟩ hs2.fresh
            refine ⟨cs', e, fz, r7, by show cs'.size = L.N; omega, c3, by show L.D + o + (len + k) * i.size ≤ L.N; omega, fun j hj => ?_⟩
            refine grown_cells (D := L.D + o) hle2 hrel (by rw [hnl]) hb (fun q hq => ?_) (fun q hq => ?_) j (by omega)
            · obtain ⟨dd, x, k1, k2, k3⟩ := c5 (o + q) (by omega)
              exact ⟨dd, x, k1, by rw [r9, if_neg (by omega), Nat.add_assoc]; exact k2, k3⟩
            · rw [r9, if_pos (by omega)]; congr 1; omega)
          (fun b o' hb' hl hf => by
            have hb'' : ((s.touch bl fam).heap.set bl (.cells pm (o + len * i.size) fam)).get b = some o' := hb'
            rw [PM.get_set] at hb''
            split at hb''
            · rename_i e; subst e; simp
            · have := t4 b o' hb'' hl hf; subst this; simp)
          (by simp)
          (fun x hx hne => by
            simp only [List.mem_cons, List.not_mem_nil, or_false] at hx
            rcases hx with rfl | hx
            · exact ⟨_, PM.get_set_self _ _ _, rfl⟩
            · exact absurd hx hne)
        have hle3 := Ren.le_upd (φ := φ) ⟨L.B, L.D + o, L.N, fam⟩ hs2.fresh
        refine ⟨_, w', _, run_append_place ht hi hu hni hlen hnew hplace (by rw [add_addr]; exact r1), hle3, hmap, ?_⟩
        exact .slice (l := ⟨L.B, L.D + o, L.N, fam⟩) (Ren.upd_self _ _ _) (Nat.le_refl _) hplace (fun e => by cases e) (by simpa using h4) (.inl rfl)
      · -- a new array
        have hold : ∃ olds : List Value, olds.length = len * i.size ∧ (Builtin.firstCells i.size len (.slice (some ⟨L.B, off, none⟩) len cp')).run P w.drew = .ok ⟨olds⟩ w.drew ∧ ∀ j, j < len * i.size → ∃ dd x, pm.get (o + j) = some dd ∧ olds[j]? = some x ∧ Rel E.σ φ dd x := by
          have hcells' := (h.drew.cells ho hφ)
          rcases h5 with rfl | h5
          · obtain ⟨olds, o1, o2, o3⟩ := cells_load (P := P) hcells' hle
            exact ⟨olds, o1, o2, o3⟩
          · have hl0 : len = 0 := by omega
            subst hl0
            refine ⟨[], by simp, ?_, fun j hj => by omega⟩
            simp only [Builtin.firstCells, Nat.zero_mul]
            rfl
        obtain ⟨olds, o1, o2, o3⟩ := hold
        obtain ⟨cap, hcd⟩ : ∃ c, c = grownCap w (len + k) cp' elem := ⟨_, rfl⟩
        have hcap : len + k ≤ cap := by
          rw [hcd]
          show len + k ≤ (len + k) + _
          exact Nat.le_add_right _ _
        have hrun := run_append_grows (ty := ty) ht hi hz hu hni hlen o2 hnew' (by omega) h63 hby
        rw [← hcd] at hrun
        obtain ⟨arr, harr⟩ : ∃ arr : Array Value, arr = (⟨olds⟩ ++ ⟨vs⟩ ++ Builtin.zeroCells z.cells (cap - (len + k))) := ⟨_, rfl⟩
        rw [← harr] at hrun
        have hasz : arr.size = cap * i.size := by
          rw [harr]
          simp only [Array.size_append, size_zeroCells, hzs]
          show olds.length + vs.length + _ = _
          rw [o1, hvl, ← Nat.add_mul, ← Nat.add_mul]
          congr 1; omega
        have hget1 : ∀ j, j < len * i.size → arr[j]? = olds[j]? := by
          intro j hj
          rw [harr, Array.append_assoc, Array.getElem?_append, if_pos (by show j < olds.length; omega)]
          simp
        have hget2 : ∀ j, j < k * i.size → arr[len * i.size + j]? = vs[j]? := by
          intro j hj
          rw [harr, Array.append_assoc, Array.getElem?_append, if_neg (by show ¬ _ < olds.length; omega), Array.getElem?_append, if_pos (by show _ - olds.length < vs.length; omega)]
          simp only [List.getElem?_toArray]
          congr 1
          show len * i.size + j - olds.length = j
          omega
        have hcapmul : (len + k) * i.size ≤ cap * i.size := Nat.mul_le_mul_right _ hcap
        have hgc : ∀ {ψ : Ren}, φ.le ψ → ∀ j, j < len * i.size + k * i.size → ∃ dd x, (setRow base (len * i.size) new).get j = some dd ∧ arr[0 + j]? = some x ∧ Rel E.σ ψ dd x := by
          intro ψ hψ
          refine grown_cells hψ hrel hnl hb (fun q hq => ?_) (fun q hq => ?_)
          · obtain ⟨dd, x, k1, k2, k3⟩ := o3 q hq
            exact ⟨dd, x, k1, by rw [Nat.zero_add, hget1 q hq]; exact k2, k3⟩
          · rw [Nat.zero_add]; exact hget2 q hq
        cases ex with
        | true =>
          simp only [Option.some.injEq, Prod.mk.injEq] at hg
          obtain ⟨rfl, rfl⟩ := hg
          have hnewb := h.drew.new (mk := fun b => .cells (setRow base (len * i.size) new) ((len + k) * i.size) b) (obj := .cells arr elem) (N := cap * i.size) rfl (by
            have hle2 := Ren.le_upd (φ := φ) ⟨w.drew.heap.size, 0, cap * i.size, s.next⟩ h.drew.fresh
            refine ⟨arr, elem, (0, 0), by show (w.heap.push _)[w.heap.size]? = _; simp, hasz, .inl (Nat.le_refl _), by simp only; omega, fun j hj => ?_⟩
            exact hgc hle2 j (by omega))
          obtain ⟨g1, g2, g3⟩ := hnewb
          refine ⟨_, _, _, hrun, g2, g1, ?_⟩
          exact .slice (l := ⟨w.drew.heap.size, 0, cap * i.size, s.next⟩) (Ren.upd_self _ _ _) (Nat.le_refl _) hcap (fun e => by cases e) (by simp) (.inl rfl)
        | false =>
          simp only [Option.some.injEq, Prod.mk.injEq] at hg
          obtain ⟨rfl, rfl⟩ := hg
          obtain ⟨t1, t2, t3, t4, _⟩ := touch_sound h.drew ho
          have hs2 : WRel E φ { (s.touch bl fam) with heap := (s.touch bl fam).heap.set bl (.cells pm (o + len * i.size) fam) } w.drew := by
            refine t1.change (o1 := .cells pm (o + len * i.size) fam) t2 hφ rfl rfl ?_ rfl (fun _ _ => rfl) rfl rfl rfl ?_
            · intro b' o' l' hb' hl hφ' hB
              refine t4 b' o' hb' hl ?_
              have e1 := t1.inj _ _ _ _ hφ' hφ hB
              rw [t1.fam _ _ _ hb' hφ', t1.fam _ _ _ t2 hφ] at e1
              exact e1
            · obtain ⟨arr0, e, fz, c1, c2, c3, c4, c5⟩ := h.drew.cells ho hφ
              exact ⟨arr0, e, fz, c1, c2, c3, by omega, fun j hj => c5 j (by omega)⟩
          have hs3 := hs2.garbage (.cells arr elem)
          have hsize : (w.drew.alloc (.cells arr elem)).heap.size = w.heap.size + 1 := by simp
          have hmap := hs3.map (L := ⟨w.heap.size, 0, cap * i.size, fam⟩) (o := .cells (setRow base (len * i.size) new) ((len + k) * i.size) fam) (f := fam) (ms := [bl, (s.touch bl fam).next]) (by rw [hsize]; simp) (Nat.le_trans E.h0 h.below.size) rfl rfl
            (by have := (h.hlt _ _ ho).2; simp only [famOf] at this; rw [← t3] at this; exact this)
            (fun b l hb' hB => by have := (h.lt _ _ hb').2.1; simp only at hB; omega)
            (by
              have hle2 := Ren.le_upd (φ := φ) ⟨w.heap.size, 0, cap * i.size, fam⟩ hs3.fresh
              refine ⟨arr, elem, (0, 0), by show (w.heap.push _)[w.heap.size]? = _; simp, hasz, .inl (Nat.le_refl _), by simp only; omega, fun j hj => ?_⟩
              exact hgc hle2 j (by omega))
            (fun b o' hb' hl hf => by
              have hb'' : ((s.touch bl fam).heap.set bl (.cells pm (o + len * i.size) fam)).get b = some o' := hb'
              rw [PM.get_set] at hb''
              split at hb''
              · rename_i e; subst e; simp
              · have := t4 b o' hb'' hl hf; subst this; simp)
            (by simp)
            (fun x hx hne => by
              simp only [List.mem_cons, List.not_mem_nil, or_false] at hx
              rcases hx with rfl | hx
              · exact ⟨_, PM.get_set_self _ _ _, rfl⟩
              · exact absurd hx hne)
          have hle3 := Ren.le_upd (φ := φ) ⟨w.heap.size, 0, cap * i.size, fam⟩ hs3.fresh
          refine ⟨_, _, _, hrun, hle3, hmap, ?_⟩
          exact .slice (l := ⟨w.heap.size, 0, cap * i.size, fam⟩) (Ren.upd_self _ _ _) (Nat.le_refl _) hcap (fun e => by cases e) (by simp) (.inl rfl)
  · simp at hg

end Go.Dm
