import Derived.Test.YtbnkomlknlpmmaaGreatDoorDmD
/-
  The abstract machine: operations that read memory, the second part.
-/
namespace Go.Dm
open Go.RowKit
variable {E : Env} {φ : Ren} {P : Program} {s : St} {w : World}

theorem bytesOf_spec : ∀ {l : List DV} {vs : List Value} {bs : List UInt8}, RelL E.σ φ l vs → bytesOf l = some bs → ∃ ns : List Int, vs = ns.map (Value.int .u8) ∧ bs = ns.map fun n => UInt8.ofNat n.toNat
  | _, _, bs, .nil, h => by simp only [bytesOf, Option.some.injEq] at h; subst h; exact ⟨[], rfl, rfl⟩
  | _, _, bs, .cons hd hr, h => by
    unfold bytesOf at h
    split at h
    · rename_i e; cases e
    · rename_i n r e
      injection e with e1 e2
      subst e1 e2
      cases hd
      simp only [Option.map_eq_some_iff] at h
      obtain ⟨bs', hb, rfl⟩ := h
      obtain ⟨ns, rfl, rfl⟩ := bytesOf_spec hr hb
      exact ⟨n :: ns, rfl, rfl⟩
    · simp at h

theorem foldl_push : ∀ (ns : List Int) (acc : ByteArray), ns.foldl (fun r n => r.push (UInt8.ofNat n.toNat)) acc = ⟨acc.data ++ (ns.map fun n => UInt8.ofNat n.toNat).toArray⟩
  | [], acc => by simp
  | n :: ns, acc => by
    simp only [List.foldl_cons, foldl_push ns, List.map_cons]
    congr 1
    simp [ByteArray.push]

theorem bytesToStringD_sound (h : WRel E φ s w) {x d : DV} {v : Value} (hx : Rel E.σ φ x v) (hl : bytesToStringD x s = some d) : ∃ y, (Conv.bytesToString v).run P w = .ok y w ∧ Rel E.σ φ d y := by
  unfold bytesToStringD at hl
  split at hl
  · cases hx; simp only [Option.some.injEq] at hl; subst hl; exact ⟨_, rfl, .c _⟩
  · rename_i b o len cp ex sz
    cases hb : Nat.beq sz 1 with
    | false => rw [hb] at hl; simp at hl
    | true =>
    obtain rfl := Nat.eq_of_beq_eq_true hb
    rw [hb] at hl
    simp only [cond_true, Option.bind_eq_some_iff, Option.map_eq_some_iff] at hl
    obtain ⟨l, hr, bs, hbs, rfl⟩ := hl
    cases hx with | slice hφ h1 h2 h3 h4 h5 =>
    rename_i L off cp'
    have key : ∃ vs : List Value, RelL E.σ φ l vs ∧ (loadCells ⟨L.B, off, none⟩ len).run P w = .ok ⟨vs⟩ w := by
      rcases h5 with rfl | h5
      · obtain ⟨vs, _, hrel, _, hrun⟩ := row_sound (P := P) h hφ hr
        exact ⟨vs, hrel, hrun⟩
      · have hl0 : len = 0 := by omega
        subst hl0
        have : l = [] := by
          have hlen : l.length = 0 := by
            unfold St.row at hr
            split at hr
            · rename_i pm m f ho
              cases hbb : Nat.ble (o + 0) m with
              | false => rw [hbb] at hr; simp at hr
              | true =>
                rw [hbb] at hr
                have hr' : pm.toL o 0 = some l := hr
                exact PM.toL_length hr'
            · simp at hr
          exact List.eq_nil_of_length_eq_zero hlen
        subst this
        exact ⟨[], .nil, rfl⟩
    obtain ⟨vs, hrel, hrun⟩ := key
    obtain ⟨ns, rfl, rfl⟩ := bytesOf_spec hrel hbs
    refine ⟨_, run_bytesToString (P := P) w _ len cp' ns (by rw [hrun]), ?_⟩
    rw [foldl_push]
    have : (ByteArray.empty.data ++ (ns.map fun n => UInt8.ofNat n.toNat).toArray) = ⟨ns.map fun n => UInt8.ofNat n.toNat⟩ := by
      apply Array.ext'; simp
    rw [this]
    exact .c _
  · simp at hl

theorem sliceArrD_sound (h : WRel E φ s w) {n : Nat} {elem : TypeId} {b o : Nat} {lo hi mx : Option DV} {lo' hi' mx' : Option Value} {d : DV} {L : Loc} (hφ : φ b = some L) (hlo : RelO E φ lo lo') (hhi : RelO E φ hi hi') (hmx : RelO E φ mx mx')
    (hs : sliceArrD P n elem b o lo hi mx s = some d) : ∃ l h m sz, (Instr.sliceBounds false n n lo' hi' mx').run P w = .ok (l, h, m) w ∧ (sizeOf elem).run P w = .ok sz w ∧
      Rel E.σ φ d (.slice (some (if m = l then ⟨L.B, L.D + o, none⟩ else (Addr.mk L.B (L.D + o) none).add (l * sz))) (h - l) (m - l)) := by
  unfold sliceArrD at hs
  split at hs
  · rename_i sz pm m f hz ho
    cases hb : Nat.ble (o + n * sz) m with
    | false => rw [hb] at hs; simp at hs
    | true =>
    rw [hb] at hs
    simp only [cond_true, Option.map_eq_some_iff] at hs
    obtain ⟨⟨l, hh, m0⟩, hbd, rfl⟩ := hs
    obtain ⟨m', hr, k1, k2, k3, k4, k5, k6, k7⟩ := bounds_sound (P := P) hlo hhi hmx (Nat.le_refl _) (Nat.le_refl _) hbd false w
    have hm' : m' = m0 := by
      cases mx with
      | none => have := k3 rfl; omega
      | some _ => exact k2 rfl
    subst hm'
    obtain ⟨cs, e, fz, _, hN, _, hDN, _⟩ := h.cells ho hφ
    have hle := Nat.le_of_ble_eq_true hb
    refine ⟨l, hh, m', sz, hr, run_szOf hz w, ?_⟩
    have := reslice (E := E) (φ := φ) (ex := true) (mxs := mx.isSome) (L := L) hφ (fun _ => rfl) (show L.D + o + n * sz ≤ L.N by omega) (.inl rfl) k1 k2 (fun hf => k3 (by simpa using hf)) k4 k5 k6 k7
    have e : (cond mx.isSome true true) = true := by cases mx.isSome <;> rfl
    rw [e] at this
    have e2 : ∀ (c : Prop) [Decidable c] (a b : Addr), (if c then some a else some b) = some (if c then a else b) := by intro c _ a b; split <;> rfl
    rw [e2] at this
    exact this
  · simp at hs

theorem slicePtrD_sound (h : WRel E φ s w) {t : TypeId} {x d : DV} {v : Value} {lo hi mx : Option DV} {lo' hi' mx' : Option Value} (hx : Rel E.σ φ x v) (hlo : RelO E φ lo lo') (hhi : RelO E φ hi hi') (hmx : RelO E φ mx mx')
    (hs : slicePtrD P t x lo hi mx s = some d) : ∃ y, (Instr.sliceAt t v lo' hi' mx').run P w = .ok y w ∧ Rel E.σ φ d y := by
  unfold slicePtrD at hs
  split at hs
  · rename_i n elem b o hu
    cases hx with | ptr hφ =>
    obtain ⟨l, hh, m, sz, h1, h2, h3⟩ := sliceArrD_sound (P := P) h hφ hlo hhi hmx hs
    refine ⟨_, ?_, h3⟩
    simp only [Instr.sliceAt, Sem.run_bind, run_und hu, Result.andThen_ok, Instr.sureAddr, Sem.run_pure, h1, h2]
  · rename_i arr b o hu
    cases hx with | ptr hφ =>
    split at hs
    · rename_i n elem ha
      obtain ⟨l, hh, m, sz, h1, h2, h3⟩ := sliceArrD_sound (P := P) h hφ hlo hhi hmx hs
      refine ⟨_, ?_, h3⟩
      simp only [Instr.sliceAt, Instr.slice, Sem.run_bind, run_und hu, Result.andThen_ok, asAddr, Sem.run_pure, run_und ha, h1, h2]
    · simp at hs
  · simp at hs

theorem isBytes_und {t : TypeId} (h : isBytes P t = true) : ∃ e, P.underlying t = some (.slice e) ∧ P.underlying e = some (.int .u8) := by
  unfold isBytes at h
  split at h
  · rename_i e hu
    split at h
    · rename_i he; exact ⟨e, hu, he⟩
    · simp at h
  · simp at h

theorem isString_und {t : TypeId} (h : isString P t = true) : P.underlying t = some .string := by
  unfold isString at h
  split at h
  · rename_i hu; exact hu
  · simp at h

/-- An operation that reads memory. -/
theorem readOp_sound (h : WRel E φ s w) {o : Oper} {ρ : Operand → DV} {ρ' : Operand → Value} {d : DV} (hρ : ∀ x, Rel E.σ φ (ρ x) (ρ' x)) (hr : readOp P o.op ρ s = some d) :
    ∃ x, (execOp ρ' o).run P w = .ok (.value x) w ∧ Rel E.σ φ d x := by
  obtain ⟨dst, op, type, pos, after, guard⟩ := o
  simp only at hr
  unfold readOp at hr
  split at hr
  · obtain ⟨y, hy, hr⟩ := loadD_sound (P := P) h (hρ _) hr
    exact ⟨y, v_run hy, hr⟩
  · obtain ⟨y, hy, hr⟩ := lookupD_sound (P := P) h (hρ _) (hρ _) hr
    exact ⟨y, v_run hy, hr⟩
  · rename_i t x lo hi mx
    obtain ⟨y, hy, hr⟩ := slicePtrD_sound (P := P) h (hρ x) (RelO.map hρ lo) (RelO.map hρ hi) (RelO.map hρ mx) hr
    exact ⟨y, v_run hy, hr⟩
  · rename_i src dst' x
    cases hb : isBytes P src && isString P dst' with
    | false => rw [hb] at hr; simp at hr
    | true =>
      rw [hb] at hr; simp only [cond_true] at hr
      simp only [Bool.and_eq_true] at hb
      obtain ⟨e, h1, h2⟩ := isBytes_und hb.1
      have h3 := isString_und hb.2
      have hx := hρ x
      obtain ⟨y, hy, hrr⟩ := bytesToStringD_sound (P := P) h hx hr
      refine ⟨y, v_run ?_, hrr⟩
      have sl : ∃ a n c, ρ' x = .slice a n c := by
        unfold bytesToStringD at hr
        split at hr
        · rename_i e; rw [e] at hx; generalize ρ' x = v at hx; cases hx; exact ⟨_, _, _, rfl⟩
        · rename_i e; rw [e] at hx; generalize ρ' x = v at hx; cases hx; exact ⟨_, _, _, rfl⟩
        · simp at hr
      obtain ⟨a, n, c, hs⟩ := sl
      rw [hs] at hy ⊢
      simp only [Go.convert, Sem.run_bind, run_und h1, run_und h3, Result.andThen_ok, run_und h2, hy]
  · rename_i args argTypes
    split at hr
    · rename_i x t ts ha ht
      have ha' : args = #[x] := by apply Array.ext'; simpa using ha
      have ht' : argTypes[0]? = some t := by rw [← Array.getElem?_toList, ht]; rfl
      subst ha'
      have hx := hρ x
      generalize hv : ρ' x = v at hx
      split at hr
      · rename_i k e b hu hrb
        rw [hrb] at hx
        cases hx with | map hφ =>
        split at hr
        · rename_i es clock ho
          simp only [Option.some.injEq] at hr; subst hr
          obtain ⟨fs, h1, h2⟩ := h.obj _ _ _ ho hφ
          refine ⟨goInt es.length, ?_, .c _⟩
          have hl := h2.length
          simp only [Array.length_toList] at hl
          simp [execOp, resolve, invoke, builtin, Builtin.len_, ht', run_und hu, getObj, Sem.run, h1, hv, hl]
        · simp at hr
      · simp at hr
    · simp at hr
  · simp at hr

/-- What a table says of operations without effect is true. -/
structure TabOp (E : Env) (P : Program) (T : Tab) : Prop where
  op : ∀ (o : Oper) (args : List DV) (d : DV), T.op o.op args = some d → ∀ (φ : Ren) (w : World) (ρ' : Operand → Value), Below E.B0 E.w0 w → RelL E.σ φ args (o.op.operands.toList.map ρ') →
    ∃ x, (execOp ρ' o).run P w = .ok (.value x) w ∧ Rel E.σ φ d x

theorem stillOp_sound {T : Tab} (hT : TabOp E P T) (h : WRel E φ s w) {o : Oper} {ρ : Operand → DV} {ρ' : Operand → Value} {d : DV} (hρ : ∀ x, Rel E.σ φ (ρ x) (ρ' x)) (hr : stillOp P T o.op ρ s = some d) :
    ∃ x, (execOp ρ' o).run P w = .ok (.value x) w ∧ Rel E.σ φ d x := by
  unfold stillOp at hr
  split at hr
  · rename_i v hv
    simp only [Option.some.injEq] at hr; subst hr
    exact pureOp_sound hρ hv w
  · split at hr
    · rename_i v hv
      simp only [Option.some.injEq] at hr; subst hr
      exact readOp_sound h hρ hv
    · exact hT.op o _ d hr φ w ρ' h.below (RelL.map hρ _)

end Go.Dm
