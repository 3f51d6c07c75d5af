import Derived.Test.YtbnkomlknlpmmaaGreatDoorDmE2
/-
  The abstract machine: what changes memory, the third part: slices that are made, appended to, copied.
-/
namespace Go.Dm
open Go.RowKit
variable {E : Env} {φ : Ren} {P : Program} {s : St} {w : World}

theorem makeSliceD_sound (h : WRel E φ s w) {t : TypeId} {l c d : DV} {lv cv : Value} {s' : St} (hl : Rel E.σ φ l lv) (hc : Rel E.σ φ c cv) (hs : makeSliceD P t l c s = some (d, s')) :
    ∃ y w' ψ, (Instr.makeSlice t lv cv).run P w = .ok y w' ∧ φ.le ψ ∧ WRel E ψ s' w' ∧ Rel E.σ ψ d y := by
  unfold makeSliceD at hs
  split at hs
  · rename_i elem kl len kc cp hu
    cases hl; cases hc
    split at hs
    · rename_i i hi
      cases hb : Nat.ble len cp && Nat.ble cp 65536 && Nat.ble i.bytes 65536 && Nat.ble 1 i.size with
      | false => rw [hb] at hs; simp at hs
      | true =>
        rw [hb] at hs
        simp only [cond_true, Option.bind_eq_some_iff] at hs
        simp only [Bool.and_eq_true] at hb
        obtain ⟨⟨⟨b1, b2⟩, b3⟩, b4⟩ := hb
        have b1 := Nat.le_of_ble_eq_true b1
        have b2 := Nat.le_of_ble_eq_true b2
        have b3 := Nat.le_of_ble_eq_true b3
        obtain ⟨z, hz, hs⟩ := hs
        cases hb2 : Nat.beq z.length i.size && z.all DV.one with
        | false => rw [hb2] at hs; simp at hs
        | true =>
          rw [hb2] at hs
          simp only [cond_true, Option.some.injEq, Prod.mk.injEq] at hs
          obtain ⟨rfl, rfl⟩ := hs
          simp only [Bool.and_eq_true] at hb2
          have hzl := Nat.eq_of_beq_eq_true hb2.1
          obtain ⟨zv, hzv, hzr⟩ := zeroCells_rel (E := E) (φ := φ) hz
          have hzs : zv.cells.size = i.size := by have := hzr.length; simp at this; omega
          simp only [hi, Option.bind_some] at hzv
          have hmul : (i.bytes : Int) * (cp : Int) ≤ 281474976710656 := by
            have h1 : i.bytes * cp ≤ 65536 * 65536 := Nat.mul_le_mul b3 b2
            have : ((i.bytes * cp : Nat) : Int) ≤ 281474976710656 := by omega
            rwa [Int.natCast_mul] at this
          have hrun := run_make (P := P) w t elem i zv hu hi hzv kl kc (Int.ofNat len) (Int.ofNat cp) (by simp) (by simp; omega) (by simpa using hmul) (by simp; omega)
          obtain ⟨g1, g2, g3⟩ := newRow_sound (rest := #[]) h (hzr.repeat cp) elem
          have hcells : (⟨repeatL zv.cells.toList cp⟩ : Array Value) ++ #[] = madeCells zv.cells ((Int.ofNat cp).toNat * i.size) := by
            unfold madeCells
            rw [← hzs]
            simp only [Int.ofNat_eq_natCast, Int.toNat_natCast]
            rw [range_map_eq]
            simp
          rw [hcells] at g1
          refine ⟨_, _, _, hrun, g2, g1, ?_⟩
          rw [g3]
          refine .slice (l := ⟨w.heap.size, 0, _, s.next⟩) (Ren.upd_self _ _ _) b1 (Nat.le_refl _) (fun _ => rfl) ?_ (.inl rfl)
          simp only [repeatL_length, Array.length_toList, Array.size_empty, hzs]
          simp
    · simp at hs
  · simp at hs

theorem stringToBytesD_sound (h : WRel E φ s w) {x d : DV} {v : Value} {e : TypeId} {s' : St} (hx : Rel E.σ φ x v) (hs : stringToBytesD x s = some (d, s')) :
    ∃ bs, v = .string bs ∧ ∃ y w' ψ, (Conv.stringToBytes e bs).run P w = .ok y w' ∧ φ.le ψ ∧ WRel E ψ s' w' ∧ Rel E.σ ψ d y := by
  unfold stringToBytesD at hs
  split at hs
  · rename_i bs
    cases hx
    refine ⟨bs, rfl, ?_⟩
    cases hb : Nat.ble bs.size 65536 with
    | false => rw [hb] at hs; simp at hs
    | true =>
      rw [hb] at hs
      simp only [cond_true, Option.some.injEq, Prod.mk.injEq] at hs
      obtain ⟨rfl, rfl⟩ := hs
      have hd := h.drew
      obtain ⟨cap, hcd⟩ : ∃ c, c = grownCap w bs.size 0 e := ⟨_, rfl⟩
      have hcap : bs.size ≤ cap := by
        rw [hcd]
        show bs.size ≤ bs.size + _
        exact Nat.le_add_right _ _
      let arr : Array Value := ⟨bs.data.toList.map fun b => Value.int .u8 b.toNat⟩ ++ Array.replicate (cap - bs.size) (.int .u8 0)
      have hrel : RelL E.σ φ (bs.data.toList.map fun b => DV.c (.int .u8 b.toNat)) (bs.data.toList.map fun b => Value.int .u8 b.toNat) := by
        have := RelL.cs (σ := E.σ) (φ := φ) (bs.data.toList.map fun b => Value.int .u8 b.toNat)
        rw [List.map_map] at this
        exact this
      have hlen : (bs.data.toList.map fun b => DV.c (.int .u8 b.toNat)).length = bs.size := by rw [List.length_map, Array.length_toList]; rfl
      have hdl : bs.data.toList.length = bs.size := by rw [Array.length_toList]; rfl
      have hsz : arr.size = cap := by
        simp only [arr, Array.size_append, Array.size_replicate]
        show (bs.data.toList.map fun b => Value.int .u8 b.toNat).length + _ = _
        rw [List.length_map, hdl]
        omega
      have hnew := hd.new (mk := fun b => .cells (PM.nil.ofList 0 (bs.data.toList.map fun b => DV.c (.int .u8 b.toNat))) bs.size b) (obj := .cells arr e (cap, cap + 1)) (N := cap) rfl (by
        have hle := Ren.le_upd (φ := φ) ⟨w.drew.heap.size, 0, cap, s.next⟩ hd.fresh
        refine ⟨arr, e, (cap, cap + 1), by show (w.heap.push _)[w.heap.size]? = _; simp, hsz, .inr (Nat.le_refl _), by simpa using hcap, fun i hi => ?_⟩
        have hi' : i < (bs.data.toList.map fun b => DV.c (.int .u8 b.toNat)).length := by omega
        have hx : (bs.data.toList.map fun b => DV.c (.int .u8 b.toNat))[i]? = some _ := List.getElem?_eq_getElem hi'
        obtain ⟨y, hy, hr⟩ := hrel.get i _ hx
        refine ⟨_, y, ?_, ?_, hr.mono hle⟩
        · rw [PM.get_ofList, if_pos (by omega)]; simpa using hx
        · simp only [Nat.zero_add, arr]
          rw [Array.getElem?_append, if_pos (by simpa using hi')]
          simpa using hy)
      obtain ⟨g1, g2, g3⟩ := hnew
      have hst : (s.newRow (bs.data.toList.map fun b => DV.c (.int .u8 b.toNat))) = s.new fun b => .cells (PM.nil.ofList 0 (bs.data.toList.map fun b => DV.c (.int .u8 b.toNat))) bs.size b := by
        unfold St.newRow
        rw [hlen]
      refine ⟨.slice (some ⟨w.heap.size, 0, none⟩) bs.size cap, w.drew.alloc (.cells arr e (cap, cap + 1)), _, ?_, g2, ?_, ?_⟩
      rotate_left
      · rw [hst]; exact g1
      · rw [hst, g3]
        exact .slice (l := ⟨w.drew.heap.size, 0, cap, s.next⟩) (Ren.upd_self _ _ _) (Nat.le_refl _) hcap (fun e => by cases e) (by simp) (.inl rfl)
      · have harr : (bs.data.map fun b => Value.int IntKind.u8 b.toNat) ++ Array.replicate (cap - bs.size) (Value.int .u8 0) = arr := by
          simp only [arr]; congr 1; apply Array.ext'; simp
        have hpush : ((w.heap.push (Obj.cells arr e)).modify w.heap.size fun
            | .cells c elem (lo, hi) => .cells c elem (if lo == hi then (arr.size, arr.size + 1) else (min lo arr.size, max hi (arr.size + 1)))
            | o => o) = w.heap.push (.cells arr e (arr.size, arr.size + 1)) := by
          apply Array.ext_getElem?
          intro k
          rw [Array.getElem?_modify, Array.getElem?_push, Array.getElem?_push]
          by_cases e1 : k = w.heap.size
          · subst e1; simp
          · rw [if_neg (by omega), if_neg e1, if_neg e1]
        simp only [Conv.stringToBytes, Sem.run_bind, run_choose, Question.forced, Bool.false_eq_true, if_false, Result.andThen_ok]
        show ((newRow e (Array.map (fun b => Value.int IntKind.u8 ↑b.toNat) bs.data ++ Array.replicate (grownCap w bs.size 0 e - bs.size) (Value.int IntKind.u8 0))).run P w.drew).andThen _ = _
        rw [← hcd, harr]
        simp only [newRow, Sem.run_bind, run_newObj, Result.andThen_ok, Sem.run_pure, markStringish, run_shape, World.shape?]
        simp only [Array.getElem?_push_size, run_freeze, Result.andThen_ok, World.freeze]
        rw [if_neg (by omega)]
        congr 1
        · rw [hcd]; rfl
        · rw [hsz] at hpush
          exact congrArg (fun hp => ({ heap := hp, tape := w.drew.tape, drawn := w.drew.drawn, os := w.drew.os, output := w.drew.output } : World)) (by rw [hsz]; exact hpush)
  · simp at hs

end Go.Dm
