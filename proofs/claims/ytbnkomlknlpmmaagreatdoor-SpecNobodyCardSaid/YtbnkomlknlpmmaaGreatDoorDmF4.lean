import Derived.Test.YtbnkomlknlpmmaaGreatDoorDmF3
/-
  The abstract machine: calls of functions.
-/
namespace Go.Dm
open Go.RowKit
variable {E : Env} {φ : Ren} {P : Program} {s : St} {w : World} {T : Tab} {rc : Rec} {N : Nat}

def resSem (tmps : Array Value) : ResultVar → Sem Value
  | .tmp t => pure (tmps.getD t undef)
  | .cell a t => do loadVar t (← asAddr (tmps.getD a undef))

theorem resultD_sound (hw : WRel E φ s w) {fr : Fr} {a : Act} (ha : ARel E φ fr a) : ∀ {rs : List ResultVar} {l : List DV}, resultD P fr s rs = some l →
    ∃ vs : List Value, (rs.mapM (resSem a.tmps)).run P w = .ok vs w ∧ RelL E.σ φ l vs
  | [], l, h => by simp only [resultD, Option.some.injEq] at h; subst h; exact ⟨[], by simp, .nil⟩
  | .tmp t :: rs, l, h => by
    simp only [resultD, Option.map_eq_some_iff] at h
    obtain ⟨l', hl, rfl⟩ := h
    obtain ⟨vs, h1, h2⟩ := resultD_sound hw ha hl
    exact ⟨a.tmps.getD t undef :: vs, by simp [List.mapM_cons, resSem, h1], .cons (ha.eval (.tmp t)) h2⟩
  | .cell x t :: rs, l, h => by
    simp only [resultD, Option.bind_eq_some_iff, Option.map_eq_some_iff] at h
    obtain ⟨d, hd, l', hl, rfl⟩ := h
    obtain ⟨vs, h1, h2⟩ := resultD_sound hw ha hl
    obtain ⟨y, hy, hr⟩ := loadD_sound (P := P) hw (ha.eval (.tmp x)) hd
    refine ⟨y :: vs, ?_, .cons hr h2⟩
    have hx := ha.eval (.tmp x)
    have hadr : ∃ ad, a.eval (.tmp x) = .pointer (some ad) := by
      unfold loadD at hd
      split at hd
      · rename_i e _; rw [e] at hx; generalize a.eval (.tmp x) = v at hx; cases hx; exact ⟨_, rfl⟩
      · rename_i e _; rw [e] at hx; generalize a.eval (.tmp x) = v at hx; cases hx; exact ⟨_, rfl⟩
      · simp at hd
    obtain ⟨ad, had⟩ := hadr
    have had' : a.tmps.getD x undef = .pointer (some ad) := had
    rw [had] at hy
    have hy' : (loadVar t ad).run P w = .ok y w := by simpa [Instr.loadAt, Instr.sureAddr] using hy
    have hres : (resSem a.tmps (.cell x t)).run P w = .ok y w := by
      simp only [resSem, had', asAddr, Sem.run_bind, Sem.run_pure, Result.andThen_ok, hy']
    simp [List.mapM_cons, hres, h1]

theorem results_run {fn : Func} {tmps : Array Value} {vs : List Value} {l : List DV} (h : (fn.results.toList.mapM (resSem tmps)).run P w = .ok vs w) (hr : RelL E.σ φ l vs) : ∃ v, (results fn tmps).run P w = .ok v w ∧ Rel E.σ φ (oneOrTup l) v := by
  have e : results fn tmps = (fn.results.mapM (resSem tmps) >>= fun vs => (pure (if h : vs.size = 1 then vs[0] else .tuple vs) : Sem Value)) := by
    unfold results
    congr 2
  have h' : (fn.results.mapM (resSem tmps)).run P w = .ok ⟨vs⟩ w := by
    rw [Array.mapM_eq_mapM_toList]
    simp [h]
  rw [e, Sem.run_bind, h']
  simp only [Result.andThen_ok, Sem.run_pure]
  cases hr with
  | nil => exact ⟨_, rfl, .tup .nil⟩
  | cons h1 h2 =>
    cases h2 with
    | nil => exact ⟨_, rfl, h1⟩
    | cons h3 h4 => exact ⟨_, rfl, .tup (.cons h1 (.cons h3 h4))⟩

theorem shut_sound {fn : Func} {tmps : Array Value} {n : Nat} (R : Ending → World → Prop) : ∀ {ms : List Nat} {ds : List Deferred} {s : St} {w : World} {h : PM DObj}, WRel E φ s w → MarksRel φ ms ds → shutMarks s.heap ms = some h →
    (∀ w', WRel E φ { s with heap := h } w' → LeavesIn (Fw none) n P fn tmps R [] .returning w') → LeavesInM (Fw none) n P fn tmps R ds .returning w
  | _, _, s, w, h, hw, .nil, hs, hk => by
    simp only [shutMarks, Option.some.injEq] at hs
    subst hs
    exact hk w hw
  | _, _, s, w, h, hw, .cons (m := m) (l := l) hφ k, hs, hk => by
    unfold shutMarks at hs
    split at hs
    · rename_i ho
      have hobj : w.heap[l.B]? = some (.deferred (some [])) := hw.obj _ _ _ ho hφ
      obtain ⟨w', h1, h2⟩ := setObj_sound (P := P) (o1 := .dead m) hw ho hφ rfl rfl rfl (.deferred none) (fun _ _ => trivial)
      refine ⟨by simp, .inl ⟨l.B, w', rfl, ?_, ?_⟩⟩
      · have hg : (getObj l.B).run P w = .ok (.deferred (some [])) w := by simp [getObj, Sem.run, hobj]
        simp only [Instr.takeDeferred, Sem.run_bind, hg, Result.andThen_ok, h1]
        rfl
      · exact shut_sound R (s := { s with heap := s.heap.set m (.dead m) }) h2 k hs hk
    · simp at hs

theorem call_sound (hrc : RecOK E P N rc) (hT : TabOK E P T) {f : FuncId} {args : List DV} {d : DV} {s' : St} (h : callStep P T rc f args s = some (d, s')) : CallSim E P f args s d s' := by
  unfold callStep at h
  split at h
  · rename_i g hg
    exact hT.call f g hg args s d s' h
  · split at h
    · simp at h
    · rename_i fn hf
      split at h
      · simp at h
      · rename_i c hc
        split at h
        · rename_i x fr s1 h1
          obtain ⟨hr1, hc1⟩ := hrc.code _ _ _ _ _ _ h1
          cases hx : x.done with
          | false => rw [hx] at h; simp at h
          | true =>
          rw [hx] at h
          simp only [cond_true, Option.bind_eq_some_iff, Option.map_eq_some_iff, Prod.mk.injEq] at h
          obtain ⟨hp, hshut, l, hl, rfl, rfl⟩ := h
          refine ⟨⟨fn, hf, by rw [hc]; rfl⟩, fun φ w vs hw hrel n => ?_⟩
          have hlen := hrel.length
          -- the activation at its start
          let a0 : Act := { tmps := (⟨vs⟩ : Array Value) ++ Array.replicate (fn.ntmps - (⟨vs⟩ : Array Value).size) undef, defers := [] }
          have hsz : a0.tmps.size = (Fr.enter P f fn args).nt := by
            show ((⟨vs⟩ : Array Value) ++ Array.replicate (fn.ntmps - (⟨vs⟩ : Array Value).size) undef).size = if args.length ≤ fn.ntmps then fn.ntmps else args.length
            simp only [Array.size_append, Array.size_replicate, List.size_toArray]
            split <;> omega
          have ha0 : ARel E φ (Fr.enter P f fn args) a0 := by
            refine ⟨hsz, fun t ht => ?_, fun t ht => ?_, .nil⟩
            · show Rel E.σ φ (((PM.nil.ofList 0 args).get t).getD undefD) (a0.tmps.getD t undef)
              rw [PM.get_ofList]
              have hget : a0.tmps.getD t undef = ((⟨vs⟩ : Array Value) ++ Array.replicate (fn.ntmps - (⟨vs⟩ : Array Value).size) undef)[t]?.getD undef := by
                rw [Array.getD_eq_getD_getElem?]
              rw [hget, Array.getElem?_append]
              by_cases g : t < args.length
              · rw [if_pos (by omega), if_pos (by simp only [List.size_toArray]; omega)]
                have hx : args[t]? = some (args[t]) := List.getElem?_eq_getElem g
                obtain ⟨y, hy, hr⟩ := hrel.get t _ hx
                simp only [Nat.sub_zero, List.getElem?_toArray, hy, hx, Option.getD_some]
                exact hr
              · rw [if_neg (by omega), if_neg (by simp only [List.size_toArray]; omega)]
                have : (Array.replicate (fn.ntmps - (⟨vs⟩ : Array Value).size) undef)[t - (⟨vs⟩ : Array Value).size]?.getD undef = undef := by
                  rw [Array.getElem?_replicate]; split <;> rfl
                rw [this]
                exact .c _
            · show (PM.nil.ofList 0 args).get t = none
              have hge : args.length ≤ t := by
                have : (Fr.enter P f fn args).nt = if args.length ≤ fn.ntmps then fn.ntmps else args.length := rfl
                rw [this] at ht
                split at ht <;> omega
              rw [PM.get_ofList, if_neg (by omega)]; rfl
          have hwp := hc1 φ w a0 none hw ha0 trivial n
          refine callsIn_of_wp_marks (F := Fw none) hf hc trivial (wpIn_mono hwp ?_) rfl
          rintro e a1 w1 ⟨rfl, ψ, hle, hw1, ha1⟩
          have hleave : LeavesInM (Fw none) n P fn a1.tmps (fun e w' => ∃ ψ x, e = .returned x ∧ φ.le ψ ∧ WRel E ψ { s1 with heap := hp } w' ∧ Rel E.σ ψ (oneOrTup l) x) a1.defers .returning w1 := by
            refine shut_sound _ hw1 ha1.marks hshut fun w2 hw2 => ?_
            obtain ⟨us, k1, k2⟩ := resultD_sound (P := P) hw2 ha1 hl
            obtain ⟨v, k3, k4⟩ := results_run (P := P) (fn := fn) k1 k2
            exact ⟨v, k3, ψ, v, rfl, hle, hw2, k4⟩
          cases x with
          | normal => exact hleave
          | ret => exact hleave
          | exit id => simp [X.done] at hx
          | goto t => simp [X.done] at hx
        · simp at h

end Go.Dm
