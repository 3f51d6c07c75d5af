import Derived.Test.YtbnkomlknlpmmaaGreatDoorDmE7
import Derived.LoopNIn
/-
  The abstract machine: activations, operations with calls.
-/
namespace Go.Dm
open Go.RowKit
variable {E : Env} {φ : Ren} {P : Program} {s : St} {w : World}

/-- The marks of loops over functions among an activation's deferred calls. -/
inductive MarksRel (φ : Ren) : List Nat → List Deferred → Prop
  | nil : MarksRel φ [] []
  | cons {m : Nat} {l : Loc} {ms : List Nat} {ds : List Deferred} (h : φ m = some l) (k : MarksRel φ ms ds) : MarksRel φ (m :: ms) ({ target := .collected l.B, args := #[] } :: ds)

theorem MarksRel.mono {ψ : Ren} (hle : φ.le ψ) : ∀ {ms : List Nat} {ds : List Deferred}, MarksRel φ ms ds → MarksRel ψ ms ds
  | _, _, .nil => .nil
  | _, _, .cons h k => .cons (hle _ _ h) (MarksRel.mono hle k)

structure ARel (E : Env) (φ : Ren) (fr : Fr) (a : Act) : Prop where
  size : a.tmps.size = fr.nt
  tmps : ∀ t, t < fr.nt → Rel E.σ φ ((fr.tm.get t).getD undefD) (a.tmps.getD t undef)
  out : ∀ t, fr.nt ≤ t → fr.tm.get t = none
  marks : MarksRel φ fr.marks a.defers

theorem ARel.mono {ψ : Ren} (hle : φ.le ψ) {fr : Fr} {a : Act} (h : ARel E φ fr a) : ARel E ψ fr a :=
  ⟨h.size, fun t ht => (h.tmps t ht).mono hle, h.out, h.marks.mono hle⟩

theorem ARel.evalTmp {fr : Fr} {a : Act} (h : ARel E φ fr a) (t : Nat) : Rel E.σ φ ((fr.tm.get t).getD undefD) (a.tmps.getD t undef) := by
  by_cases ht : t < fr.nt
  · exact h.tmps t ht
  · have : a.tmps.getD t undef = undef := by
      have : a.tmps.size ≤ t := by rw [h.size]; omega
      simp [Array.getD_eq_getD_getElem?, Array.getElem?_eq_none this]
    rw [this, h.out t (by omega)]
    exact .c _

theorem ARel.eval {fr : Fr} {a : Act} (h : ARel E φ fr a) : ∀ x, Rel E.σ φ (fr.eval x) (a.eval x)
  | .tmp t => h.evalTmp t
  | .const v => .c v
  | .global _ => .c _
  | .func _ => .c _

theorem ARel.put {fr : Fr} {a : Act} (h : ARel E φ fr a) {d : DV} {v : Value} (hd : Rel E.σ φ d v) (dst : Option Nat) : ARel E φ (fr.put dst d) (a.put dst v) := by
  cases dst with
  | none => exact h
  | some t =>
    unfold Fr.put Act.put
    simp only
    by_cases ht : t < fr.nt
    · rw [show Nat.blt t fr.nt = true by simpa [Nat.blt_eq] using ht]
      simp only [cond_true]
      refine ⟨by simp [h.size], fun u hu => ?_, fun u hu => ?_, h.marks⟩
      · rw [PM.get_set]
        by_cases e : u = t
        · subst e
          rw [if_pos rfl]
          simp [Array.getD_eq_getD_getElem?, h.size, ht, hd]
        · rw [if_neg e]
          have := h.tmps u hu
          simp only [Array.getD_eq_getD_getElem?] at this ⊢
          rw [Array.getElem?_setIfInBounds, if_neg (by omega)]
          exact this
      · rw [PM.get_set_ne _ _ (by simp only at hu; omega)]; exact h.out u hu
    · rw [show Nat.blt t fr.nt = false by rw [Bool.eq_false_iff]; simpa [Nat.blt_eq] using ht]
      simp only [cond_false]
      have : a.tmps.setIfInBounds t v = a.tmps := by
        apply Array.ext_getElem?
        intro i
        rw [Array.getElem?_setIfInBounds]
        by_cases e : t = i
        · subst e
          have hs := h.size
          rw [if_pos rfl, if_neg (by omega), Array.getElem?_eq_none (by omega)]
        · rw [if_neg e]
      rw [this]
      exact h

/-! ### What a step means -/
/-- The fence of an activation. -/
def Fw (r : Option Nat) : Fence := { Fence.wide with round := r }

theorem Fw_room (r : Option Nat) (n : Nat) : (Fw r).room n := fun _ h => by simp [Fw, Fence.wide] at h
theorem Fw_depth (r : Option Nat) : (Fw r).depth.isSome = true → ∀ n : Nat, 1 ≤ n := fun h => by simp [Fw, Fence.wide] at h

def RoundRel (φ : Ren) : Option Nat → Option Nat → Prop
  | none, none => True
  | some l, some r => ∃ L, φ l = some L ∧ r = L.B
  | _, _ => False

theorem RoundRel.mono {ψ : Ren} (hle : φ.le ψ) {x y : Option Nat} (h : RoundRel φ x y) : RoundRel ψ x y := by
  cases x <;> cases y <;> first | trivial | exact h.elim | (obtain ⟨L, h1, h2⟩ := h; exact ⟨L, hle _ _ h1, h2⟩)

def X.toExit : X → Exit
  | .normal => .normal
  | .exit id => .exit id
  | .goto l => .goto l
  | .ret => .ret

/-- A call's contract: what it gives, and the memory behind it. -/
def CallSim (E : Env) (P : Program) (f : FuncId) (args : List DV) (s : St) (d : DV) (s' : St) : Prop :=
  (∃ fn, P.funcs[f]? = some fn ∧ fn.body.isSome = true) ∧
  ∀ (φ : Ren) (w : World) (vs : List Value), WRel E φ s w → RelL E.σ φ args vs → ∀ n,
    CallsIn Fence.wide n P f ⟨vs⟩ w fun e w' => ∃ ψ x, e = .returned x ∧ φ.le ψ ∧ WRel E ψ s' w' ∧ Rel E.σ ψ d x

/-- What is asked behind a piece of code. -/
def CPost (E : Env) (φ : Ren) (x : X) (fr : Fr) (s : St) (e : Exit) (a : Act) (w : World) : Prop :=
  e = x.toExit ∧ ∃ ψ, φ.le ψ ∧ WRel E ψ s w ∧ ARel E ψ fr a

def CodeSim (E : Env) (P : Program) (c : Code) (fr : Fr) (s : St) (x : X) (fr' : Fr) (s' : St) : Prop :=
  fr'.round = fr.round ∧ ∀ (φ : Ren) (w : World) (a : Act) (r : Option Nat), WRel E φ s w → ARel E φ fr a → RoundRel φ fr.round r → ∀ n, c.wpIn (Fw r) n P (CPost E φ x fr' s') a w

structure TabOK (E : Env) (P : Program) (T : Tab) : Prop extends TabOp E P T where
  call : ∀ f g, T.call f = some g → ∀ args s d s', g args s = some (d, s') → CallSim E P f args s d s'

def LoopSim (E : Env) (P : Program) (N : Nat) (b : Code) (fr : Fr) (s : St) (x : X) (fr' : Fr) (s' : St) : Prop :=
  ∀ (φ : Ren) (w : World) (a : Act) (r : Option Nat), WRel E φ s w → ARel E φ fr a → RoundRel φ fr.round r → ∀ n, Code.roundsIn (Fw r) n P b (CPost E φ x fr' s') N a w

/-- What the levels below have shown. -/
structure RecOK (E : Env) (P : Program) (N : Nat) (rc : Rec) : Prop where
  call : ∀ f args s d s', rc.call f args s = some (d, s') → CallSim E P f args s d s'
  code : ∀ c fr s x fr' s', rc.code c fr s = some (x, fr', s') → CodeSim E P c fr s x fr' s'
  loop : ∀ b fr s x fr' s', rc.code (.loop b) fr s = some (x, fr', s') → LoopSim E P N b fr s x fr' s'
  scope : ∀ b c fr s x fr' s', rc.scope b c fr s = some (x, fr', s') → fr'.round = fr.round ∧ ∀ (φ : Ren) (w : World) (a : Act) (r : Option Nat), WRel E φ s w → ARel E φ fr a → RoundRel φ fr.round r → ∀ _ : Nat,
    ∀ (bf : Frame) (k : List Item) (cs : List Frame), bf.roundOf = (Fw r).round →
      ∃ e a' w', CPost E φ x fr' s' e a' w' ∧ ArrivesIn (Machine.fenced P (Fw r)) P (lone (bf.atR a (.code c :: .inScope b :: k)) cs w) bf k cs e a' w'

/-- No function of the program with a body bears the one name that the model takes apart. -/
def NoCount (P : Program) : Prop := ∀ (f : FuncId) (fn : Func), P.funcs[f]? = some fn → fn.body.isSome = true → (fn.name == "runtime.NumGoroutine") = false

theorem callFunc_run (hN : NoCount P) {f : FuncId} {fn : Func} (hf : P.funcs[f]? = some fn) (hb : fn.body.isSome = true) (args : Array Value) (w : World) : (callFunc f args).run P w = .ok (.enter f args) w := by
  have h1 := hN f fn hf hb
  have h2 : fn.body.isNone = false := by
    cases hbd : fn.body with
    | none => rw [hbd] at hb; simp at hb
    | some c => rfl
  simp only [callFunc, Sem.run_bind, run_program, Result.andThen_ok, hf]
  rw [h1, h2]
  rfl

theorem relL_array {l : List DV} {vs : List Value} (a : Array Value) (h : RelL E.σ φ l vs) (e : a.toList = vs) : RelL E.σ φ l a.toList := e ▸ h

/-- The operations whose run is known are no deferred calls. -/
theorem semAt_of_value {o : Oper} {ρ : Operand → Value} {x : Value} {w w' : World} (h : (execOp ρ o).run P w = .ok (.value x) w') (r : Option Nat) : (o.semAt r ρ).run P w = .ok (.value x) w' := by
  rw [Oper.semAt_eq]
  · exact h
  · intro c hc
    simp only [execOp, hc, Sem.run_bind] at h
    cases hr : (resolve ρ c o.type).run P w with
    | ok d w1 => rw [hr] at h; simp at h
    | halt e w1 => rw [hr] at h; simp at h

theorem semAt_of_skip {o : Oper} {ρ : Operand → Value} {w w' : World} (h : (execOp ρ o).run P w = .ok .skip w') (r : Option Nat) : (o.semAt r ρ).run P w = .ok .skip w' := by
  rw [Oper.semAt_eq]
  · exact h
  · intro c hc
    simp only [execOp, hc, Sem.run_bind] at h
    cases hr : (resolve ρ c o.type).run P w with
    | ok d w1 => rw [hr] at h; simp at h
    | halt e w1 => rw [hr] at h; simp at h

/-- What is asked behind an operation. -/
def OPost (E : Env) (φ : Ren) (fr : Fr) (dst : Option Tmp) (d : DV) (s : St) (a : Act) (w : World) : Prop := ∃ ψ x a0, φ.le ψ ∧ WRel E ψ s w ∧ Rel E.σ ψ d x ∧ ARel E ψ fr a0 ∧ a = a0.put dst x

/-! ### Calls' targets -/
theorem funcTgt_sound (hN : NoCount P) {v : DV} {fv : Value} {args : List DV} {vs : List Value} {t : Tgt} (hv : Rel E.σ φ v fv) (ha : RelL E.σ φ args vs) (ht : funcTgt v args = some t) :
    match t with
    | .fn f l => ∃ us : List Value, RelL E.σ φ l us ∧ ∀ fn, P.funcs[f]? = some fn → fn.body.isSome = true → ∀ w, ∃ d : Deferred, (Deferred.ofValue fv ⟨vs⟩).run P w = .ok d w ∧ (invoke d.target d.args).run P w = .ok (.enter f ⟨us⟩) w ∧ True
    | .yield l xs => ∃ L, φ l = some L ∧ RelL E.σ φ xs vs ∧ fv = .func (.yield L.B) #[] #[] := by
  unfold funcTgt at ht
  split at ht
  · rename_i f a b
    cases hv
    simp only [Option.some.injEq] at ht
    subst ht
    refine ⟨(a.toList ++ vs) ++ b.toList, ((RelL.cs _).append ha).append (RelL.cs _), fun fn hf hb w => ⟨{ target := .fn (.func f) b, args := a ++ ⟨vs⟩ }, rfl, ?_, trivial⟩⟩
    have : ((a ++ (⟨vs⟩ : Array Value)) ++ b) = ⟨(a.toList ++ vs) ++ b.toList⟩ := by apply Array.ext'; simp
    show (callFunc f ((a ++ (⟨vs⟩ : Array Value)) ++ b)).run P w = _
    rw [this]
    exact callFunc_run hN hf hb _ w
  · rename_i f a b
    cases hv with | func h1 h2 =>
    rename_i x y
    simp only [Option.some.injEq] at ht
    subst ht
    refine ⟨(x ++ vs) ++ y, (h1.append ha).append h2, fun fn hf hb w => ⟨{ target := .fn (.func f) ⟨y⟩, args := ⟨x⟩ ++ ⟨vs⟩ }, rfl, ?_, trivial⟩⟩
    have : (((⟨x⟩ : Array Value) ++ (⟨vs⟩ : Array Value)) ++ ⟨y⟩) = ⟨(x ++ vs) ++ y⟩ := by apply Array.ext'; simp
    show (callFunc f (((⟨x⟩ : Array Value) ++ (⟨vs⟩ : Array Value)) ++ ⟨y⟩)).run P w = _
    rw [this]
    exact callFunc_run hN hf hb _ w
  · rename_i l
    cases hv with | yieldv h1 =>
    simp only [Option.some.injEq] at ht
    subst ht
    exact ⟨_, h1, ha, rfl⟩
  · simp at ht

theorem methodTgt_sound (hN : NoCount P) {v : DV} {rv : Value} {args : List DV} {vs : List Value} {name : String} {t : Tgt} (hv : Rel E.σ φ v rv) (ha : RelL E.σ φ args vs) (ht : methodTgt P v name args = some t) :
    match t with
    | .fn f l => ∃ us : List Value, RelL E.σ φ l us ∧ ∀ fn, P.funcs[f]? = some fn → fn.body.isSome = true → ∀ w, (callMethod rv name ⟨vs⟩).run P w = .ok (.enter f ⟨us⟩) w
    | .yield _ _ => False := by
  have hpos : 0 < Made.depth := by decide
  unfold methodTgt at ht
  split at ht
  · rename_i ty p
    cases hv with | iface hp =>
    rename_i pv
    dsimp only at ht
    cases hi : P.info? ty with
    | none => rw [hi] at ht; simp at ht
    | some i =>
    rw [hi] at ht
    dsimp only at ht
    cases hm : i.methods.find? (·.name == name) with
    | none => rw [hm] at ht; simp at ht
    | some m =>
    rw [hm] at ht
    dsimp only at ht
    have hmeth : ∀ (f : FuncId) (rcv : Bool) (w : World), m.path.toList = [] → m.func = some (f, rcv) → (receiverAt ty (.val pv) rcv (if m.path.isEmpty then some ((name.splitOn ".").getLastD name) else none)).run P w = .ok pv w →
        (method (P.types.size + Made.depth) ty pv name).run P w = .ok (f, pv) w := by
      intro f rcv w h1 h2 h3
      obtain ⟨k, hk⟩ : ∃ k, P.types.size + Made.depth = k + 1 := ⟨P.types.size + Made.depth - 1, by omega⟩
      rw [hk]
      simp only [method, Sem.run_bind, typeInfo, run_program, Result.andThen_ok, hi, Sem.run_pure, hm, h1, follow, h2, h3]
    split at ht
    · rename_i f el e1 e2 e3
      simp only [Option.some.injEq] at ht
      subst ht
      refine ⟨pv :: vs, .cons hp ha, fun fn hf hb w => ?_⟩
      have hr : (receiverAt ty (.val pv) true (if m.path.isEmpty then some ((name.splitOn ".").getLastD name) else none)).run P w = .ok pv w := by
        simp only [receiverAt, Sem.run_bind, run_und e3, Result.andThen_ok]
        rfl
      simp only [callMethod, Sem.run_bind, run_program, Result.andThen_ok, hmeth f true w e1 e2 hr]
      have : (#[pv] ++ (⟨vs⟩ : Array Value)) = ⟨pv :: vs⟩ := by apply Array.ext'; simp
      rw [this]
      exact callFunc_run hN hf hb _ w
    · rename_i f dd e1 e2 e3
      split at ht
      · simp at ht
      · rename_i hno
        simp only [Option.some.injEq] at ht
        subst ht
        refine ⟨pv :: vs, .cons hp ha, fun fn hf hb w => ?_⟩
        have hr : (receiverAt ty (.val pv) false (if m.path.isEmpty then some ((name.splitOn ".").getLastD name) else none)).run P w = .ok pv w := by
          simp only [receiverAt, Sem.run_bind, run_und e3, Result.andThen_ok]
          cases dd <;> first | exact absurd rfl (hno _) | rfl
        simp only [callMethod, Sem.run_bind, run_program, Result.andThen_ok, hmeth f false w e1 e2 hr]
        have : (#[pv] ++ (⟨vs⟩ : Array Value)) = ⟨pv :: vs⟩ := by apply Array.ext'; simp
        rw [this]
        exact callFunc_run hN hf hb _ w
    · simp at ht
  · simp at ht

end Go.Dm
