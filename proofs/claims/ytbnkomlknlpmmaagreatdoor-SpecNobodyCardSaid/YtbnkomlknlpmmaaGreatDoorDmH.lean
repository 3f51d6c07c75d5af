import Derived.Test.YtbnkomlknlpmmaaGreatDoorDmG
import Derived.Carry
import Derived.WalkKit
import Derived.ProofKit
import Derived.OpenShut
import GoSem.Claim
/-
  The abstract machine: what a run of it says of a call; a law's frame.
-/
namespace Go.Dm
open Go.RowKit Go.ChangeShapes Go.WideShapes Go.ChangeAt

/-- What stands for the arguments that are not looked into. -/
def envAt (σ : Nat → Value) (one : ∀ i, oneV (σ i) = true) (w : World) : Env := { σ, one, w0 := w, B0 := w.heap.size, h0 := Nat.le_refl _, ban := fun _ => False }

theorem WRel.start (σ : Nat → Value) (one : ∀ i, oneV (σ i) = true) (w : World) : WRel (envAt σ one w) (fun _ => none) St.empty w where
  lt := fun b l h => by cases h
  inj := fun b b' l l' h => by cases h
  fam := fun b o l _ h => by cases h
  obj := fun b o l _ h => by cases h
  live := fun b o h _ => by cases (PM.get_nil (α := DObj) b).symm.trans h
  hlt := fun b o h => by cases (PM.get_nil (α := DObj) b).symm.trans h
  flt := fun f ms h => by cases (PM.get_nil (α := List Nat) f).symm.trans h
  mem := fun f ms h => by cases (PM.get_nil (α := List Nat) f).symm.trans h
  below := Below.refl _ _
  ban := fun b h => h.elim

theorem tabNone_ok (E : Env) (P : Program) : TabOK E P Tab.none := ⟨⟨fun _ _ _ h => by cases h⟩, fun _ _ h => by cases h⟩

/-- A run of the abstract machine speaks of the call. -/
theorem call_runs {P : Program} (hN : NoCount P) {T : Tab} {N : Nat} {f : FuncId} {args : List DV} {d : DV} {s' : St} (h : (recN P T N).call f args St.empty = some (d, s')) (σ : Nat → Value) (one : ∀ i, oneV (σ i) = true)
    (w : World) (hT : ∀ X, TabOK ((envAt σ one w).at X) P T) {vs : List Value} (hvs : RelL σ (fun _ => none) args vs) : Calls P f ⟨vs⟩ w fun e w' => ∃ ψ x, e = .returned x ∧ Rel σ ψ d x ∧ Below w.heap.size w w' := by
  obtain ⟨_, hs⟩ := (rec_sound (E := envAt σ one w) hT hN N fun _ => False).call f args St.empty d s' h
  refine (callsIn_wide (n := 0)).1 ((hs (fun _ => none) w vs (WRel.start σ one w) hvs 0).mono ?_)
  rintro e w' ⟨ψ, x, rfl, _, h2, h3⟩
  exact ⟨ψ, x, rfl, h3, h2.below⟩

theorem noCount_of {P : Program} (h : (P.funcs.toList.all fun fn => !fn.body.isSome || !(fn.name == "runtime.NumGoroutine")) = true) : NoCount P := by
  intro f fn hf hb
  rw [List.all_eq_true] at h
  have := h fn (by simpa using Array.mem_of_getElem? hf)
  rw [hb] at this
  simpa using this

/-- Did the abstract machine end with true? -/
def saysTrue : Option (DV × St) → Bool
  | some (.c (.bool true), _) => true
  | _ => false

theorem saysTrue_spec {o : Option (DV × St)} (h : saysTrue o = true) : ∃ s, o = some (.c (.bool true), s) := by
  unfold saysTrue at h
  split at h
  · exact ⟨_, rfl⟩
  · cases h

theorem call_true {P : Program} (hN : NoCount P) {T : Tab} {N : Nat} {f : FuncId} {args : List DV} (h : saysTrue ((recN P T N).call f args St.empty) = true) (σ : Nat → Value) (one : ∀ i, oneV (σ i) = true)
    (w : World) (hT : ∀ X, TabOK ((envAt σ one w).at X) P T) {vs : List Value} (hvs : RelL σ (fun _ => none) args vs) : Calls P f ⟨vs⟩ w fun e w' => e = .returned (.bool true) ∧ Below w.heap.size w w' := by
  obtain ⟨s, h⟩ := saysTrue_spec h
  refine (call_runs hN h σ one w hT hvs).mono ?_
  rintro e w' ⟨ψ, x, rfl, hr, hb⟩
  cases hr
  exact ⟨rfl, hb⟩

/-! ### A law's frame -/
section
variable {H : Type} {enc : TypeId × Value → H} {P : Program}

theorem trodAll_below (hl : laidOutB P = true) {W W' : World} (hb : Below W.heap.size W W') {sp : Nat → Bool} : ∀ {ts : List TypeId} {vs : List Value} {ds : List (DataW H)} {ps : List MemPlace},
    (ts.all fun t => P.readableRec t && decide (t < P.types.size)) = true → (∀ p ∈ ps, p.block < W.heap.size) → (∀ p ∈ ps, sp p.block = true) → DataW.TrodAll enc P W 0 (fun _ => true) true ts vs ds ps → DataW.TrodAll enc P W' 0 sp true ts vs ds ps
  | [], vs, ds, ps, _, _, _, h => by
    obtain ⟨rfl, rfl, rfl⟩ := trodAll_nil h
    exact trodAll_mk0
  | t :: ts, vs, ds, ps, hts, hlt, hsp, h => by
    obtain ⟨v, vs', d, ds', p, q, rfl, rfl, rfl, hd, hr⟩ := trodAll_cons h
    simp only [List.all_cons, Bool.and_eq_true, decide_eq_true_eq] at hts
    exact trodAll_cons_mk (WideElems.Trod_stays hl hts.1.1 hts.1.2 hd (fun x hx => hb.same (hlt x (by simp [hx]))) (fun x hx => hsp x (by simp [hx])))
      (trodAll_below hl hb hts.2 (fun x hx => hlt x (by simp [hx])) (fun x hx => hsp x (by simp [hx])) hr)

theorem trodAll_lengths {W : World} {b : Nat} {sp : Nat → Bool} {hd : Bool} : ∀ {ts : List TypeId} {vs : List Value} {ds : List (DataW H)} {ps : List MemPlace}, DataW.TrodAll enc P W b sp hd ts vs ds ps → vs.length = ts.length ∧ ds.length = ts.length
  | [], vs, ds, ps, h => by
    obtain ⟨rfl, rfl, rfl⟩ := trodAll_nil h
    exact ⟨rfl, rfl⟩
  | t :: ts, vs, ds, ps, h => by
    obtain ⟨v, vs', d, ds', p, q, rfl, rfl, rfl, _, hr⟩ := trodAll_cons h
    obtain ⟨h1, h2⟩ := trodAll_lengths hr
    exact ⟨by simp [h1], by simp [h2]⟩

/-- What a law's specification says. -/
def IsLaw (s : ChangeSpec) (n : Nat) : Prop := s.vars = [] ∧ ∀ (H : Type) (l : List (DataW H)), l.length = n → s.fn H l = { results := [.lit (.bool true)], args := l }

theorem law_post {f : Func} {s : ChangeSpec} {apart fresh handsOn again : Bool} {W W' : World} {args : Array Value} {ds gs : List (DataW H)} {before : List MemPlace} {tb : TypeId}
    (hl : laidOutB P = true) (hts : (f.params.toList.all fun t => P.readableRec t && decide (t < P.types.size)) = true) (hs : IsLaw s f.params.toList.length) (hr : f.resultTypes = #[tb]) (htb : P.underlying tb = some .bool)
    (hW : DataW.Whole enc P f.params.toList s.vars apart W args.toList ds gs before) (hb : Below W.heap.size W W') : s.post enc P f apart fresh handsOn again W args (.bool true) W' := by
  have hlt : ∀ p ∈ before, p.block < W.heap.size := fun p hp => hW.lt p hp
  have hW0 := hW
  obtain ⟨p, q, hA, hV, rfl, hz, hn⟩ := hW
  rw [hs.1] at hV
  obtain ⟨rfl, rfl⟩ := trodVars_none hV
  have hlen := (trodAll_lengths hA).2
  simp only [List.append_nil] at hlt hW0 hz hn
  have hfn := hs.2 H ds hlen
  have hres : ∀ (b : Nat) (sp : Nat → Bool) (hd : Bool), DataW.TrodAll enc P W' b sp hd f.resultTypes.toList ((Value.bool true).resultList f.resultTypes.size) [.lit (.bool true)] [] := by
    intro b sp hd
    rw [hr]
    exact trodAll_cons_mk (p := []) (p' := []) (shut_bool htb _) trodAll_mk0
  have hold : ∀ x ∈ p, (fun b => decide (b < W.heap.size)) x.block = true := fun x hx => by simpa using hlt x hx
  have hargs : ∀ sp : Nat → Bool, (∀ x ∈ p, sp x.block = true) → DataW.TrodAll enc P W' 0 sp true f.params.toList args.toList ds p := fun sp hsp => trodAll_below hl hb hts hlt hsp hA
  have hvars : ∀ sp : Nat → Bool, DataW.TrodVars enc P W' sp s.vars (s.fn H (ds ++ [])).vars [] := fun sp => by
    rw [List.append_nil, hfn, hs.1]; rfl
  refine ⟨ds, [], p, [], p, [], hW0, by rw [List.append_nil, hfn]; exact hres _ _ _, by rw [List.append_nil, hfn]; exact hargs _ hold, hvars _, World.keptBut_mono (fun x hx => ⟨hx, .inr (by simpa using hx)⟩) (hb.frame _), fun _ => ?_⟩
  refine ⟨ok_one (t := tb) hr rfl (okWide_bool_mk htb _), [.lit (.bool true)] ++ ds, [], ([] ++ p) ++ [], ⟨[] ++ p, [], trodAll_append (hargs _ (fun _ _ => rfl)) (hres _ _ _), ?_, rfl, ?_, ?_⟩, ?_⟩
  · rw [hs.1]; rfl
  · intro b off hp
    have hp' : (.cell b off : MemPlace) ∈ p := by simpa using hp
    rw [hb.frozen (hlt _ hp')]
    exact hz b off (by simpa using hp')
  · intro ha
    simpa using hn ha
  · intro x hx _
    simpa using hx
end

end Go.Dm
