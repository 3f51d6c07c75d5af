import Derived.Test.YtbnkomlknlpmmaaGreatDoorDmA
import Derived.Below
import Derived.Laws.Sem
/-
  The abstract machine: what an abstract value, and an abstract memory, stand for.
-/
namespace Go.Dm
open Go.RowKit

/-! ### Tables by number -/
namespace PM
variable {α : Type}
theorem get_nil (k : Nat) : (PM.nil : PM α).get k = none := rfl
theorem beqd (a b : Nat) : Nat.beq a b = decide (a = b) := by
  by_cases h : a = b
  · subst h; simp
  · rw [decide_eq_false h]
    cases e : Nat.beq a b with
    | false => rfl
    | true => exact absurd (Nat.eq_of_beq_eq_true e) h

theorem get_node (l r : PM α) (v : Option α) (k : Nat) : (PM.node l v r).get k = if k = 0 then v else if k % 2 = 1 then l.get (k / 2) else r.get (k / 2 - 1) := by
  simp only [get, beqd, Bool.cond_decide]

theorem get_setF : ∀ (f : Nat) (t : PM α) (k j : Nat) (x : α), k < f → (setF f t k x).get j = if j = k then some x else t.get j
  | 0, _, _, _, _, h => by omega
  | f + 1, .nil, k, j, x, h => by
    simp only [setF, beqd, Bool.cond_decide]
    by_cases h0 : k = 0
    · subst h0
      rw [if_pos rfl, get_node]
      by_cases hj : j = 0
      · simp only [if_pos hj]
      · simp only [if_neg hj, get_nil, ite_self]
    · rw [if_neg h0]
      by_cases ho : k % 2 = 1
      · rw [if_pos ho, get_node]
        by_cases hj : j = 0
        · rw [if_pos hj, if_neg (by omega), get_nil]
        · rw [if_neg hj]
          by_cases hjo : j % 2 = 1
          · rw [if_pos hjo, get_setF f .nil (k / 2) (j / 2) x (by omega)]
            by_cases e : j = k
            · rw [if_pos e, if_pos (by omega)]
            · rw [if_neg e, if_neg (by omega), get_nil, get_nil]
          · rw [if_neg hjo, if_neg (by omega), get_nil, get_nil]
      · rw [if_neg ho, get_node]
        by_cases hj : j = 0
        · rw [if_pos hj, if_neg (by omega), get_nil]
        · rw [if_neg hj]
          by_cases hjo : j % 2 = 1
          · rw [if_pos hjo, if_neg (by omega), get_nil, get_nil]
          · rw [if_neg hjo, get_setF f .nil (k / 2 - 1) (j / 2 - 1) x (by omega)]
            by_cases e : j = k
            · rw [if_pos e, if_pos (by omega)]
            · rw [if_neg e, if_neg (by omega), get_nil, get_nil]
  | f + 1, .node l v r, k, j, x, h => by
    simp only [setF, beqd, Bool.cond_decide]
    by_cases h0 : k = 0
    · subst h0
      rw [if_pos rfl, get_node, get_node]
      by_cases hj : j = 0
      · simp only [if_pos hj]
      · simp only [if_neg hj]
    · rw [if_neg h0]
      by_cases ho : k % 2 = 1
      · rw [if_pos ho, get_node, get_node]
        by_cases hj : j = 0
        · rw [if_pos hj, if_neg (by omega), if_pos hj]
        · rw [if_neg hj, if_neg hj]
          by_cases hjo : j % 2 = 1
          · rw [if_pos hjo, if_pos hjo, get_setF f l (k / 2) (j / 2) x (by omega)]
            by_cases e : j = k
            · rw [if_pos e, if_pos (by omega)]
            · rw [if_neg e, if_neg (by omega)]
          · rw [if_neg hjo, if_neg hjo, if_neg (by omega)]
      · rw [if_neg ho, get_node, get_node]
        by_cases hj : j = 0
        · rw [if_pos hj, if_neg (by omega), if_pos hj]
        · rw [if_neg hj, if_neg hj]
          by_cases hjo : j % 2 = 1
          · rw [if_pos hjo, if_pos hjo, if_neg (by omega)]
          · rw [if_neg hjo, if_neg hjo, get_setF f r (k / 2 - 1) (j / 2 - 1) x (by omega)]
            by_cases e : j = k
            · rw [if_pos e, if_pos (by omega)]
            · rw [if_neg e, if_neg (by omega)]

theorem get_set (t : PM α) (k j : Nat) (x : α) : (t.set k x).get j = if j = k then some x else t.get j := get_setF _ _ _ _ _ (Nat.lt_succ_self _)

theorem get_set_self (t : PM α) (k : Nat) (x : α) : (t.set k x).get k = some x := by rw [get_set, if_pos rfl]
theorem get_set_ne (t : PM α) {k j : Nat} (x : α) (h : j ≠ k) : (t.set k x).get j = t.get j := by rw [get_set, if_neg h]

theorem get_ofList : ∀ (xs : List α) (t : PM α) (k j : Nat), (t.ofList k xs).get j = if k ≤ j ∧ j < k + xs.length then xs[j - k]? else t.get j
  | [], t, k, j => by simp only [ofList, List.length_nil]; rw [if_neg (by omega)]
  | x :: xs, t, k, j => by
    simp only [ofList, List.length_cons]
    rw [get_ofList xs, get_set]
    by_cases h1 : j = k
    · subst h1
      rw [if_neg (by omega), if_pos rfl, if_pos (by omega)]; simp
    · rw [if_neg h1]
      by_cases h2 : k + 1 ≤ j ∧ j < k + 1 + xs.length
      · rw [if_pos h2, if_pos (by omega), show j - k = (j - (k + 1)) + 1 by omega, List.getElem?_cons_succ]
      · rw [if_neg h2, if_neg (by omega)]

theorem toL_length {t : PM α} : ∀ {n o : Nat} {l : List α}, t.toL o n = some l → l.length = n
  | 0, o, l, h => by simp only [toL, Option.some.injEq] at h; subst h; rfl
  | n + 1, o, l, h => by
    simp only [toL, Option.bind_eq_some_iff, Option.some.injEq] at h
    obtain ⟨x, _, xs, hxs, rfl⟩ := h
    simp [toL_length hxs]

theorem toL_get {t : PM α} : ∀ {n o : Nat} {l : List α}, t.toL o n = some l → ∀ i, i < n → t.get (o + i) = l[i]?
  | 0, o, l, h, i, hi => by omega
  | n + 1, o, l, h, i, hi => by
    simp only [toL, Option.bind_eq_some_iff, Option.some.injEq] at h
    obtain ⟨x, hx, xs, hxs, rfl⟩ := h
    cases i with
    | zero => simpa using hx
    | succ i => rw [show o + (i + 1) = o + 1 + i by omega, toL_get hxs i (by omega)]; simp
end PM

theorem get_setRow : ∀ (xs : List DV) (pm : PM DV) (o j : Nat), (setRow pm o xs).get j = if o ≤ j ∧ j < o + xs.length then xs[j - o]? else pm.get j
  | [], pm, o, j => by simp only [setRow, List.length_nil]; rw [if_neg (by omega)]
  | x :: xs, pm, o, j => by
    simp only [setRow, List.length_cons]
    rw [get_setRow xs, PM.get_set]
    by_cases h1 : j = o
    · subst h1
      rw [if_neg (by omega), if_pos rfl, if_pos (by omega)]; simp
    · rw [if_neg h1]
      by_cases h2 : o + 1 ≤ j ∧ j < o + 1 + xs.length
      · rw [if_pos h2, if_pos (by omega), show j - o = (j - (o + 1)) + 1 by omega, List.getElem?_cons_succ]
      · rw [if_neg h2, if_neg (by omega)]

/-! ### Values -/
/-- Where an abstract block lies: block B, from cell D on; that block has N cells; the family. -/
structure Loc where
  B : Nat
  D : Nat
  N : Nat
  fam : Nat

abbrev Ren := Nat → Option Loc

def Ren.le (φ ψ : Ren) : Prop := ∀ b l, φ b = some l → ψ b = some l
theorem Ren.le_refl (φ : Ren) : φ.le φ := fun _ _ h => h
theorem Ren.le_trans {φ ψ χ : Ren} (h : φ.le ψ) (k : ψ.le χ) : φ.le χ := fun b l e => k b l (h b l e)

mutual
inductive Rel (σ : Nat → Value) (φ : Ren) : DV → Value → Prop
  | c (v : Value) : Rel σ φ (.c v) v
  | sym (i : Nat) : Rel σ φ (.sym i) (σ i)
  | ptr {b o : Nat} {l : Loc} (h : φ b = some l) : Rel σ φ (.ptr b o) (.pointer (some ⟨l.B, l.D + o, none⟩))
  | slice {b o len cp : Nat} {ex : Bool} {sz : Nat} {l : Loc} {off cp' : Nat} (h : φ b = some l) (h1 : len ≤ cp) (h2 : cp ≤ cp') (h3 : ex = true → cp' = cp) (h4 : off + cp' * sz ≤ l.N) (h5 : off = l.D + o ∨ cp' = 0) :
      Rel σ φ (.slice b o len cp ex sz) (.slice (some ⟨l.B, off, none⟩) len cp')
  | map {b : Nat} {l : Loc} (h : φ b = some l) : Rel σ φ (.map b) (.map (some l.B))
  | iter {b : Nat} {l : Loc} (h : φ b = some l) : Rel σ φ (.iter b) (.pointer (some ⟨l.B, 0, none⟩))
  | yieldv {b : Nat} {l : Loc} (h : φ b = some l) : Rel σ φ (.yieldv b) (.func (.yield l.B) #[] #[])
  | func {f : Fn} {a b : List DV} {x y : List Value} (h : RelL σ φ a x) (k : RelL σ φ b y) : Rel σ φ (.func f a b) (.func f ⟨x⟩ ⟨y⟩)
  | iface {t : TypeId} {d : DV} {v : Value} (h : Rel σ φ d v) : Rel σ φ (.iface t d) (.iface t v)
  | agg {a : List DV} {x : List Value} (h : RelL σ φ a x) : Rel σ φ (.agg a) (.agg ⟨x⟩)
  | tup {a : List DV} {x : List Value} (h : RelL σ φ a x) : Rel σ φ (.tup a) (.tuple ⟨x⟩)
inductive RelL (σ : Nat → Value) (φ : Ren) : List DV → List Value → Prop
  | nil : RelL σ φ [] []
  | cons {d : DV} {v : Value} {ds : List DV} {vs : List Value} (h : Rel σ φ d v) (k : RelL σ φ ds vs) : RelL σ φ (d :: ds) (v :: vs)
end

mutual
theorem Rel.mono {σ : Nat → Value} {φ ψ : Ren} (hle : φ.le ψ) : ∀ {d : DV} {v : Value}, Rel σ φ d v → Rel σ ψ d v
  | _, _, .c v => .c v
  | _, _, .sym i => .sym i
  | _, _, .ptr h => .ptr (hle _ _ h)
  | _, _, .slice h h1 h2 h3 h4 h5 => .slice (hle _ _ h) h1 h2 h3 h4 h5
  | _, _, .map h => .map (hle _ _ h)
  | _, _, .iter h => .iter (hle _ _ h)
  | _, _, .yieldv h => .yieldv (hle _ _ h)
  | _, _, .func h k => .func (RelL.mono hle h) (RelL.mono hle k)
  | _, _, .iface h => .iface (Rel.mono hle h)
  | _, _, .agg h => .agg (RelL.mono hle h)
  | _, _, .tup h => .tup (RelL.mono hle h)
theorem RelL.mono {σ : Nat → Value} {φ ψ : Ren} (hle : φ.le ψ) : ∀ {d : List DV} {v : List Value}, RelL σ φ d v → RelL σ ψ d v
  | _, _, .nil => .nil
  | _, _, .cons h k => .cons (Rel.mono hle h) (RelL.mono hle k)
end

section
variable {σ : Nat → Value} {φ : Ren}
theorem RelL.length : ∀ {d : List DV} {v : List Value}, RelL σ φ d v → d.length = v.length
  | _, _, .nil => rfl
  | _, _, .cons _ k => by simp [RelL.length k]

theorem RelL.append : ∀ {d : List DV} {v : List Value} {e : List DV} {u : List Value}, RelL σ φ d v → RelL σ φ e u → RelL σ φ (d ++ e) (v ++ u)
  | _, _, _, _, .nil, k => k
  | _, _, _, _, .cons h hs, k => .cons h (RelL.append hs k)

theorem RelL.get : ∀ {d : List DV} {v : List Value}, RelL σ φ d v → ∀ (i : Nat) (x : DV), d[i]? = some x → ∃ y, v[i]? = some y ∧ Rel σ φ x y
  | _, _, .nil, i, x, h => by simp at h
  | _, _, .cons h hs, 0, x, e => by simp at e; subst e; exact ⟨_, by simp, h⟩
  | _, _, .cons h hs, i + 1, x, e => by simp at e; simpa using RelL.get hs i x e

theorem RelL.get_none : ∀ {d : List DV} {v : List Value}, RelL σ φ d v → ∀ (i : Nat), d[i]? = none → v[i]? = none := by
  intro d v h i e
  have := h.length
  rw [List.getElem?_eq_none_iff] at *
  omega

theorem RelL.of_get : ∀ {d : List DV} {v : List Value}, d.length = v.length → (∀ (i : Nat) x y, d[i]? = some x → v[i]? = some y → Rel σ φ x y) → RelL σ φ d v
  | [], [], _, _ => .nil
  | x :: xs, y :: ys, hl, h => .cons (h 0 x y (by simp) (by simp)) (RelL.of_get (by simpa using hl) fun i a b ha hb => h (i + 1) a b (by simpa using ha) (by simpa using hb))
  | [], _ :: _, hl, _ => by simp at hl
  | _ :: _, [], hl, _ => by simp at hl

theorem RelL.take {d : List DV} {v : List Value} (h : RelL σ φ d v) (n : Nat) : RelL σ φ (d.take n) (v.take n) := by
  induction n generalizing d v with
  | zero => simpa using RelL.nil
  | succ n ih => cases h with
    | nil => simpa using RelL.nil
    | cons a b => simpa using RelL.cons a (ih b)

theorem RelL.drop {d : List DV} {v : List Value} (h : RelL σ φ d v) (n : Nat) : RelL σ φ (d.drop n) (v.drop n) := by
  induction n generalizing d v with
  | zero => simpa using h
  | succ n ih => cases h with
    | nil => simpa using RelL.nil
    | cons a b => simpa using ih b

theorem RelL.cs : ∀ (l : List Value), RelL σ φ (l.map .c) l
  | [] => .nil
  | v :: l => .cons (.c v) (RelL.cs l)

mutual
/-- What says no memory stands for itself. -/
theorem Rel.toV_eq : ∀ {d : DV} {v u : Value}, Rel σ φ d v → d.toV = some u → v = u
  | _, _, _, .c v, h => by simpa [DV.toV] using h
  | _, _, _, .sym i, h => by simp [DV.toV] at h
  | _, _, _, .ptr _, h => by simp [DV.toV] at h
  | _, _, _, .slice .., h => by simp [DV.toV] at h
  | _, _, _, .map _, h => by simp [DV.toV] at h
  | _, _, _, .iter _, h => by simp [DV.toV] at h
  | _, _, _, .yieldv _, h => by simp [DV.toV] at h
  | _, _, _, .func ha hb, h => by
    simp only [DV.toV, Option.bind_eq_some_iff, Option.map_eq_some_iff] at h
    obtain ⟨x, hx, y, hy, rfl⟩ := h
    rw [RelL.toV_eq ha hx, RelL.toV_eq hb hy]
  | _, _, _, .iface hd, h => by
    simp only [DV.toV, Option.map_eq_some_iff] at h
    obtain ⟨x, hx, rfl⟩ := h
    rw [Rel.toV_eq hd hx]
  | _, _, _, .agg ha, h => by
    simp only [DV.toV, Option.map_eq_some_iff] at h
    obtain ⟨x, hx, rfl⟩ := h
    rw [RelL.toV_eq ha hx]
  | _, _, _, .tup ha, h => by
    simp only [DV.toV, Option.map_eq_some_iff] at h
    obtain ⟨x, hx, rfl⟩ := h
    rw [RelL.toV_eq ha hx]
theorem RelL.toV_eq : ∀ {d : List DV} {v u : List Value}, RelL σ φ d v → toVs d = some u → v = u
  | _, _, _, .nil, h => by simpa [toVs] using h
  | _, _, _, .cons ha hs, h => by
    simp only [toVs, Option.bind_eq_some_iff, Option.map_eq_some_iff] at h
    obtain ⟨x, hx, y, hy, rfl⟩ := h
    rw [Rel.toV_eq ha hx, RelL.toV_eq hs hy]
end

theorem Rel.cells {d : DV} {v : Value} (h : Rel σ φ d v) (hσ : ∀ i, oneV (σ i) = true) : RelL σ φ d.cells v.cells.toList := by
  have one : ∀ {v : Value}, oneV v = true → v.cells = #[v] := by intro v hv; cases v <;> simp_all [oneV, Value.cells]
  cases h with
  | c v => exact RelL.cs _
  | sym i => rw [one (hσ i)]; exact .cons (.sym i) .nil
  | agg ha => exact ha
  | ptr h => exact .cons (.ptr h) .nil
  | slice h h1 h2 h3 h4 h5 => exact .cons (.slice h h1 h2 h3 h4 h5) .nil
  | map h => exact .cons (.map h) .nil
  | iter h => exact .cons (.iter h) .nil
  | yieldv h => exact .cons (.yieldv h) .nil
  | func h k => exact .cons (.func h k) .nil
  | iface h => exact .cons (.iface h) .nil
  | tup h => exact .cons (.tup h) .nil

theorem Rel.one {d : DV} {v : Value} (h : Rel σ φ d v) (hσ : ∀ i, oneV (σ i) = true) (h1 : d.one = true) : oneV v = true := by
  cases h <;> simp_all [DV.one, oneV]

theorem RelL.one : ∀ {d : List DV} {v : List Value}, RelL σ φ d v → (∀ i, oneV (σ i) = true) → d.all DV.one = true → ∀ x ∈ v, oneV x = true
  | _, _, .nil, _, _, x, hx => by simp at hx
  | _, _, .cons h k, hσ, h1, x, hx => by
    simp only [List.all_cons, Bool.and_eq_true] at h1
    rcases List.mem_cons.1 hx with rfl | hx
    · exact h.one hσ h1.1
    · exact RelL.one k hσ h1.2 x hx
end

/-! ### Memory -/
structure Env where
  σ : Nat → Value
  one : ∀ i, oneV (σ i) = true
  w0 : World
  B0 : Nat
  h0 : B0 ≤ w0.heap.size
  /-- Blocks that are not yet there. -/
  ban : Nat → Prop

def CellsAt (E : Env) (φ : Ren) (l : Loc) (w : World) (pm : PM DV) (n : Nat) : Prop :=
  ∃ cs e fz, w.heap[l.B]? = some (.cells cs e fz) ∧ cs.size = l.N ∧ (fz.2 ≤ fz.1 ∨ l.N ≤ fz.1) ∧ l.D + n ≤ l.N ∧
    ∀ i, i < n → ∃ d x, pm.get i = some d ∧ cs[l.D + i]? = some x ∧ Rel E.σ φ d x

inductive MRel (E : Env) (φ : Ren) : List (Value × DV × Nat) → List MapEntry → Prop
  | nil : MRel E φ [] []
  | cons {k : Value} {d : DV} {n : Nat} {v : Value} {es : List (Value × DV × Nat)} {fs : List MapEntry} (h : Rel E.σ φ d v) (r : MRel E φ es fs) : MRel E φ ((k, d, n) :: es) (⟨k, v, n⟩ :: fs)

structure LRel (E : Env) (φ : Ren) (L : DLoop) (M : Loop) : Prop where
  state : M.state = L.state
  pending : M.pending = L.pending
  size : M.tmps.size = L.nt
  tmps : ∀ t, t < L.nt → Rel E.σ φ ((L.tm.get t).getD undefD) (M.tmps.getD t undef)
  out : ∀ t, L.nt ≤ t → L.tm.get t = none
  params : M.params.toList = L.params
  assign : M.assign = L.assign
  body : M.body = L.body
  defers : ∃ l, φ L.defers = some l ∧ M.defers = l.B

def famOf (b : Nat) : DObj → Nat
  | .cells _ _ f => f
  | .dead f => f
  | _ => b

def DObj.live : DObj → Bool
  | .dead _ => false
  | _ => true

def ORel (E : Env) (φ : Ren) (o : DObj) (l : Loc) (w : World) : Prop :=
  match o with
  | .cells pm n _ => CellsAt E φ l w pm n
  | .dead _ => True
  | .map es clock => ∃ fs : Array MapEntry, w.heap[l.B]? = some (.map fs clock) ∧ MRel E φ es fs.toList
  | .siter s pos => w.heap[l.B]? = some (.stringIter s pos)
  | .defd => w.heap[l.B]? = some (.deferred (some []))
  | .loop L => ∃ M, w.heap[l.B]? = some (.loop M) ∧ LRel E φ L M

structure WRel (E : Env) (φ : Ren) (s : St) (w : World) : Prop where
  lt : ∀ b l, φ b = some l → b < s.next ∧ l.B < w.heap.size ∧ E.B0 ≤ l.B
  inj : ∀ b b' l l', φ b = some l → φ b' = some l' → l.B = l'.B → l.fam = l'.fam
  fam : ∀ b o l, s.heap.get b = some o → φ b = some l → l.fam = famOf b o
  obj : ∀ b o l, s.heap.get b = some o → φ b = some l → ORel E φ o l w
  live : ∀ b o, s.heap.get b = some o → o.live = true → match s.fams.get (famOf b o) with | none => b = famOf b o | some ms => b ∈ ms
  hlt : ∀ b o, s.heap.get b = some o → b < s.next ∧ famOf b o < s.next
  flt : ∀ f ms, s.fams.get f = some ms → f < s.next
  mem : ∀ f ms, s.fams.get f = some ms → ∀ x ∈ ms, ∃ o, s.heap.get x = some o ∧ famOf x o = f
  below : Below E.B0 E.w0 w
  ban : ∀ b, E.ban b → φ b = none ∧ b < s.next

/-- What is behind a step: more is known, and it stands for what lies there. -/
structure Post (E : Env) (φ : Ren) (s' : St) (w' : World) (ψ : Ren) : Prop where
  le : φ.le ψ
  rel : WRel E ψ s' w'

end Go.Dm
