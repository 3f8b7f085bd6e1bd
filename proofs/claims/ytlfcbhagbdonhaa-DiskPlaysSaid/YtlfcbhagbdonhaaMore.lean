/-
  More of the ground: append of a whole slice, rows of structs, rows that are written in place.
  No condition; nothing here speaks of the program.
-/
import Derived.Test.YtlfcbhagbdonhaaBase
import Derived.ArgAppend
import Derived.Lib.SliceRun
namespace Go.Proofs.Ytlfcbhagbdonhaa.Pb
open Go Go.RowKit

/-- what lay there is as it was -/
theorem Keep.old {F : Nat → Prop} {w w' : World} (h : Below w.heap.size w w') : Keep F w w' := ⟨h.os, h.tape, h.output, h.size, fun k hk _ => h.block k hk⟩
/-- a struct of three cells is stored into a block -/
theorem keep_put3 (w : World) (b : Nat) (x y z : Value) : Keep (fun k => k = b) w (((w.setCell ⟨b, 0, none⟩ x).setCell ⟨b, 1, none⟩ y).setCell ⟨b, 2, none⟩ z) := by
  have h0 : Keep (fun k => k = b) w w := Keep.refl _ _
  have h1 : Keep (fun k => k = b) w (w.setCell ⟨b, 0, none⟩ x) := h0.set (p := ⟨b, 0, none⟩) rfl x
  have h2 : Keep (fun k => k = b) w ((w.setCell ⟨b, 0, none⟩ x).setCell ⟨b, 1, none⟩ y) := h1.set (p := ⟨b, 1, none⟩) rfl y
  exact h2.set (p := ⟨b, 2, none⟩) rfl z

section
variable {P : Program} {ops : Array Oper} {rest : List Oper} {d : Option Tmp} {ty : TypeId} {pos : String} {af : Array Edge} {a : Act} {Q : Exit → Act → World → Prop} {w w' : World} {v : Value}
/-- out = append(out, y...), y a slice that is read -/
theorem wp_append_view {α : Type} {r : Rp α} {F G : Nat → Prop} {xs ys : List α} {s x : Operand} {t e : TypeId} {z y : Value} {bytes : Nat}
    (ht : P.underlying t = some (.slice e)) (hinfo : (P.info? e).map (fun i => (i.zero, i.size, i.bytes)) = some (some z, r.sz, bytes)) (hzs : z.cells.size = r.sz) (hsz : 0 < r.sz)
    (hown : Own r e w F xs v) (hs : a.eval s = v) (hx : a.eval x = y) (hy : View r w G ys y) (hG : ∀ k, G k → some k ≠ v.ownBlock)
    (h63 : xs.length + ys.length ≤ maxLen) (hbytes : (xs.length + ys.length) * bytes ≤ 140737488355328)
    (h : ∀ v' w', Own r e w' (fun k => F k ∨ G k ∨ w.heap.size ≤ k) (xs ++ ys) v' → Keep (fun k => some k = v.ownBlock) w w' → (v' = .slice none 0 0 ↔ v = .slice none 0 0 ∧ ys.length = 0) → (v'.ownBlock = v.ownBlock ∨ ∃ k, v'.ownBlock = some k ∧ w.heap.size ≤ k) → wpList P ops Q rest (a.put d v') w') :
    wpList P ops Q (⟨d, .call ⟨.builtin .append, #[s, x], #[t, t]⟩, ty, pos, af, none⟩ :: rest) a w := by
  obtain ⟨v', w', hr, ho, hk, hn, hb'⟩ := run_append_view (ty := ty) ht hinfo hzs hsz hown hy hG h63 hbytes
  exact wp_val (exec_append (v := v') (w' := w') (by simpa [hs, hx] using hr)) (h v' w' ho hk hn hb')

theorem _root_.Go.Proofs.Ytlfcbhagbdonhaa.Pb.Own.flat {α : Type} {enc : α → Value} {h1 : ∀ x, (enc x).oneCell' = true} {e : TypeId} {w : World} {F F' : Nat → Prop} {xs : List α} {v : Value} (h : Own (Rp.flat enc h1) e w F xs v) (hF : ∀ k, v.ownBlock = some k → F' k) : Own (Rp.flat enc h1) e w F' xs v := by
  obtain ⟨cells, a1, _, a3⟩ := h
  exact ⟨cells, a1, hF, a3⟩

/-- append([]T{}, y...): a copy in memory of the call's own; what is read lies before it -/
theorem wp_clone {α : Type} {r : Rp α} {G : Nat → Prop} {ys : List α} {s x : Operand} {t e : TypeId} {z y : Value} {bytes : Nat}
    (ht : P.underlying t = some (.slice e)) (hinfo : (P.info? e).map (fun i => (i.zero, i.size, i.bytes)) = some (some z, r.sz, bytes)) (hzs : z.cells.size = r.sz) (hsz : 0 < r.sz)
    (hs : a.eval s = .slice (some ⟨w.heap.size, 0, none⟩) 0 0) (hx : a.eval x = y) (hy : View r w G ys y)
    (h63 : ys.length ≤ maxLen) (hbytes : ys.length * bytes ≤ 140737488355328)
    (h : ∀ v' w', Own r e w' (fun k => (G k ∧ k < w.heap.size) ∨ w.heap.size ≤ k) ys v' → Below w.heap.size w w' → (∃ g c, v' = .slice (some ⟨g, 0, none⟩) ys.length c ∧ ys.length ≤ c ∧ w.heap.size ≤ g) → wpList P ops Q rest (a.put d v') w') :
    wpList P ops Q (⟨d, .call ⟨.builtin .append, #[s, x], #[t, t]⟩, ty, pos, af, none⟩ :: rest) a (w.alloc (.cells #[] e)) := by
  have h0 : Own r e (w.alloc (.cells (([] : List Value).toArray) e)) (fun k => False ∨ w.heap.size ≤ k) ([] : List α) (.slice (some ⟨w.heap.size, 0, none⟩) 0 0) := Own.lit (d := r) (e := e) (G := fun _ => False) (xs := []) w Elems.nil rfl (Nat.zero_le _)
  have hy' : View r (w.alloc (.cells #[] e)) (fun k => G k ∧ k < w.heap.size) ys y := hy.bnd.move fun k hk _ => Below.heap_alloc _ _ _ hk.2
  refine wp_append_view (v := .slice (some ⟨w.heap.size, 0, none⟩) 0 0) ht hinfo hzs hsz h0 hs hx hy' (fun k hk e' => ?_) (by simpa using h63) (by simpa using hbytes) ?_
  · simp [Value.ownBlock] at e'; omega
  intro v' w' ho hk hn hb'
  rw [List.nil_append] at ho
  have hsz1 : (w.alloc (.cells #[] e)).heap.size = w.heap.size + 1 := by simp
  refine h v' w' (ho.mono fun k hk' => ?_) ?_ ?_
  · rcases hk' with (h1 | h1) | h1 | h1
    · exact h1.elim
    · exact .inr h1
    · exact .inl h1
    · exact .inr (by omega)
  · refine ((Below.refl w.heap.size w).alloc (Nat.le_refl _) (.cells #[] e)).trans (hk.below (by omega) fun i hi e' => ?_)
    simp [Value.ownBlock] at e'; omega
  · obtain ⟨A, c, rfl, hc⟩ := ho.slice
    obtain ⟨cells, ⟨_, h1⟩, _⟩ := ho
    rcases h1 with ⟨h1, _⟩ | ⟨g, cap, cur, h1, _⟩
    · rw [hn] at h1; simp at h1
    · cases h1
      refine ⟨g, c, rfl, hc, ?_⟩
      rcases hb' with hb' | ⟨k, hk', hle⟩
      · simp [Value.ownBlock] at hb'; omega
      · simp [Value.ownBlock] at hk'; omega
end

theorem blk_put3 {w : World} {b : Nat} {x0 y0 z0 : Value} {t : TypeId} {fz : Nat × Nat} (h : w.heap[b]? = some (.cells #[x0, y0, z0] t fz)) (x y z : Value) :
    (((w.setCell ⟨b, 0, none⟩ x).setCell ⟨b, 1, none⟩ y).setCell ⟨b, 2, none⟩ z).heap[b]? = some (.cells #[x, y, z] t fz) := by
  have h1 := blk_set (blk_set (blk_set h 0 x) 1 y) 2 z
  simpa using h1
theorem below_new (w : World) (o : Obj) : Below w.heap.size w (w.alloc o) := (Below.refl _ _).alloc (Nat.le_refl _) _
theorem blk_past {w : World} {k : Nat} {o o' : Obj} (h : w.heap[k]? = some o) : (w.alloc o').heap[k]? = some o := (Below.heap_alloc _ _ _ (blk_lt h)).trans h
theorem blk_other {w : World} {k : Nat} {o : Obj} {a : Addr} {v : Value} (h : w.heap[k]? = some o) (hne : k ≠ a.block) : (w.setCell a v).heap[k]? = some o := (Below.heap_setCell _ _ _ _ hne).trans h

/-- a new variable of three cells, and its first value -/
def var3 (w : World) (o : Array Value) (t : TypeId) (x y z : Value) : World := (((w.alloc (.cells o t)).setCell ⟨w.heap.size, 0, none⟩ x).setCell ⟨w.heap.size, 1, none⟩ y).setCell ⟨w.heap.size, 2, none⟩ z
theorem var3_blk (w : World) (x0 y0 z0 : Value) (t : TypeId) (x y z : Value) : (var3 w #[x0, y0, z0] t x y z).heap[w.heap.size]? = some (.cells #[x, y, z] t (0, 0)) := blk_put3 (blk_new w _) x y z
theorem var3_below (w : World) (o : Array Value) (t : TypeId) (x y z : Value) : Below w.heap.size w (var3 w o t x y z) := by
  have h0 := (Below.refl w.heap.size w).alloc (Nat.le_refl _) (.cells o t)
  have h1 := h0.setCell (p := ⟨w.heap.size, 0, none⟩) (Nat.le_refl _) x
  have h2 := h1.setCell (p := ⟨w.heap.size, 1, none⟩) (Nat.le_refl _) y
  exact h2.setCell (p := ⟨w.heap.size, 2, none⟩) (Nat.le_refl _) z
theorem var3_size (w : World) (o : Array Value) (t : TypeId) (x y z : Value) : (var3 w o t x y z).heap.size = w.heap.size + 1 := by
  unfold var3; rw [size_setCell, size_setCell, size_setCell]; simp

/-! ### a row that is owned, written in place -/
def putAt (cs : List Value) (o : Nat) (vs : List Value) : List Value := cs.take o ++ vs ++ cs.drop (o + vs.length)
theorem putAt_len (cs : List Value) (o : Nat) (vs : List Value) (h : o + vs.length ≤ cs.length) : (putAt cs o vs).length = cs.length := by
  unfold putAt; simp; omega
theorem putAt_cons (cs : List Value) (o : Nat) (v : Value) (vs : List Value) (h : o + (v :: vs).length ≤ cs.length) : putAt (cs.set o v) (o + 1) vs = putAt cs o (v :: vs) := by
  unfold putAt
  simp only [List.length_cons] at h
  have h1 : (cs.set o v).take (o + 1) = cs.take o ++ [v] := by
    rw [List.take_add_one, List.take_set_of_le (Nat.le_refl _), List.getElem?_set_self (by omega)]; rfl
  rw [h1, List.drop_set_of_lt (by omega)]
  simp [Nat.add_assoc, Nat.add_comm 1]
theorem putAt_take (cs : List Value) (o : Nat) (vs : List Value) (m : Nat) (h : m ≤ o) (ho : o ≤ cs.length) : (putAt cs o vs).take m = cs.take m := by
  unfold putAt
  rw [List.append_assoc, List.take_append_of_le_length (by simp; omega), List.take_take, Nat.min_eq_left h]
theorem putAt_upto (cs : List Value) (o : Nat) (vs : List Value) (ho : o ≤ cs.length) : (putAt cs o vs).take (o + vs.length) = cs.take o ++ vs := by
  unfold putAt
  rw [List.take_append_of_le_length (by simp; omega), List.take_of_length_le (by simp; omega)]
theorem heap_setCells {g : Nat} {t : TypeId} {fz : Nat × Nat} : ∀ (vs : List Value) (o : Nat) (w : World) (cur : Array Value), w.heap[g]? = some (.cells cur t fz) → o + vs.length ≤ cur.size →
    ∃ cur', (w.setCells g o vs).heap[g]? = some (.cells cur' t fz) ∧ cur'.toList = putAt cur.toList o vs := by
  intro vs
  induction vs with
  | nil => intro o w cur h hl; exact ⟨cur, h, by unfold putAt; simp⟩
  | cons v vs ih =>
    intro o w cur h hl
    have h1 := blk_set h o v
    obtain ⟨cur', a, b⟩ := ih (o + 1) (w.setCell ⟨g, o, none⟩ v) _ h1 (by simp at hl ⊢; omega)
    refine ⟨cur', a, ?_⟩
    rw [b, Array.toList_setIfInBounds, putAt_cons _ _ _ _ (by simpa using hl)]
theorem keep_setCells (g : Nat) : ∀ (vs : List Value) (o : Nat) (w : World), Keep (fun k => k = g) w (w.setCells g o vs) := by
  intro vs
  induction vs with
  | nil => intro o w; exact Keep.refl _ _
  | cons v vs ih =>
    intro o w
    have h0 : Keep (fun k => k = g) w w := Keep.refl _ _
    exact (h0.set (p := ⟨g, o, none⟩) rfl v).trans (ih (o + 1) _) (fun _ _ h => h)
theorem size_setCells (g : Nat) : ∀ (vs : List Value) (o : Nat) (w : World), (w.setCells g o vs).heap.size = w.heap.size := by
  intro vs
  induction vs with
  | nil => intro o w; rfl
  | cons v vs ih => intro o w; rw [World.setCells, ih, size_setCell]

/-- an owned row: its block, opened -/
theorem Own.block {α : Type} {d : Rp α} {e : TypeId} {w : World} {F : Nat → Prop} {xs : List α} {v : Value} (h : Own d e w F xs v) (hne : xs ≠ []) :
    ∃ g cap cur cells, v = .slice (some ⟨g, 0, none⟩) xs.length cap ∧ F g ∧ w.heap[g]? = some (.cells cur e (0, 0)) ∧ xs.length ≤ cap ∧ cap ≤ maxLen ∧ cur.size = cap * d.sz ∧ cells.length = xs.length * d.sz ∧ cur.toList.take (xs.length * d.sz) = cells ∧ Elems (d.rep w (fun k => F k ∧ k ≠ g)) xs cells := by
  obtain ⟨cells, ⟨hl, h1⟩, hF, hel⟩ := h
  rcases h1 with ⟨_, e0⟩ | ⟨g, cap, cur, rfl, _, hg, hc, hm, hs, ht⟩
  · exact absurd (List.eq_nil_of_length_eq_zero e0) hne
  · exact ⟨g, cap, cur, cells, rfl, hF g rfl, hg, hc, hm, hs, hl, ht, hel.imp fun _ _ _ h => d.mono (fun k hk => ⟨hk.1, fun e => hk.2 (by rw [e]; rfl)⟩) h⟩
/-- .. and shut again in a world in which the block, and no other of them, has turned -/
theorem Own.shut {α : Type} {d : Rp α} {e : TypeId} {w w' : World} {F : Nat → Prop} {zs : List α} {g cap : Nat} {cur : Array Value} {cells : List Value} (hF : F g) (hg : w'.heap[g]? = some (.cells cur e (0, 0))) (hc : zs.length ≤ cap) (hm : cap ≤ maxLen) (hs : cur.size = cap * d.sz)
    (ht : cur.toList.take (zs.length * d.sz) = cells) (hel : Elems (d.rep w (fun k => F k ∧ k ≠ g)) zs cells) (hk : Keep (fun k => k = g) w w') : Own d e w' F zs (.slice (some ⟨g, 0, none⟩) zs.length cap) := by
  refine ⟨cells, ⟨hel.len fun _ _ h => d.len h, .inr ⟨g, cap, cur, rfl, Nat.zero_le _, hg, hc, hm, hs, ht⟩⟩, fun k hk => ?_, hel.imp fun _ _ _ h => d.mono (fun k hk => ?_) (d.keep hk (fun k hk => hk.2) h)⟩
  · simp [Value.ownBlock] at hk; rw [← hk]; exact hF
  · exact ⟨hk.1, fun e => hk.2 (by simp [Value.ownBlock] at e; exact e)⟩

/-- clear(s): a part of a row that is owned, or nothing -/
theorem run_clear {P : Program} {w : World} {t e ty : TypeId} {z : Value} (ht : P.underlying t = some (.slice e)) (hv : ∀ w, (zeroValue e).run P w = .ok z w) (h1 : ∀ u ∈ z.cells.toList, u.oneCell' = true) {g o n c : Nat} {cur : Array Value} (hg : w.heap[g]? = some (.cells cur e (0, 0))) (hl : o + n * z.cells.size ≤ cur.size) :
    ∃ vs, (Builtin.clear_ #[t] ty #[.slice (some ⟨g, o, none⟩) n c]).run P w = .ok (.tuple #[]) (w.setCells g o vs) ∧ vs.length = n * z.cells.size := by
  cases n with
  | zero => exact ⟨[], by simp [Builtin.clear_, run_underlying ht, World.setCells], by simp⟩
  | succ m =>
    refine ⟨(Builtin.zeroCells z.cells (m + 1)).toList, ?_, by simp [Builtin.zeroCells]⟩
    have hlen : (Builtin.zeroCells z.cells (m + 1)).toList.length = (m + 1) * z.cells.size := by simp [Builtin.zeroCells]
    have hst := run_storeCells_cells (P := P) g o (Builtin.zeroCells z.cells (m + 1)).toList 0 w (fun j hj => by rw [Nat.add_zero, blk_cell hg, Array.getElem?_eq_getElem (by omega)]; rfl) (fun j hj => blk_free hg _) (fun u hu => by
      simp only [Builtin.zeroCells, Array.toList_map, List.mem_map, Array.toList_range, List.mem_range] at hu
      obtain ⟨i, hi, rfl⟩ := hu
      have hp : 0 < z.cells.size := Nat.pos_of_ne_zero fun e => by rw [e] at hi; simp at hi
      have hi' := Nat.mod_lt i hp
      rw [getElem!_pos z.cells _ hi']
      exact h1 _ (Array.getElem_mem_toList hi'))
    simp only [Nat.add_zero] at hst
    simp [Builtin.clear_, run_underlying ht, hv, hst]

section
variable {P : Program} {ops : Array Oper} {rest : List Oper} {d : Option Tmp} {ty : TypeId} {pos : String} {af : Array Edge} {a : Act} {Q : Exit → Act → World → Prop} {w w' : World} {v : Value}
theorem stop_clear {args : Array Operand} {ts : Array TypeId} (h : Stopped (wpList P ops Q (⟨d, .call ⟨.builtin .clear, args, ts⟩, ty, pos, af, none⟩ :: rest) a w)) :
    wpList P ops Q (⟨d, .call ⟨.builtin .clear, args, ts⟩, ty, pos, af, none⟩ :: rest) a w := h.out
theorem wp_clear {t e : TypeId} {z : Value} {x : Operand} (ht : P.underlying t = some (.slice e)) (hv : ∀ w, (zeroValue e).run P w = .ok z w) (h1 : ∀ u ∈ z.cells.toList, u.oneCell' = true) {g o n c : Nat} {cur : Array Value} (hg : w.heap[g]? = some (.cells cur e (0, 0))) (hl : o + n * z.cells.size ≤ cur.size) (hx : a.eval x = .slice (some ⟨g, o, none⟩) n c)
    (h : ∀ vs : List Value, vs.length = n * z.cells.size → wpList P ops Q rest (a.put d (.tuple #[])) (w.setCells g o vs)) :
    wpList P ops Q (⟨d, .call ⟨.builtin .clear, #[x], #[t]⟩, ty, pos, af, none⟩ :: rest) a w := by
  obtain ⟨vs, hr, hl'⟩ := run_clear (P := P) (ty := ty) (c := c) ht hv h1 hg hl
  refine wp_val (exec_builtin (v := .tuple #[]) (w' := w.setCells g o vs) ?_) (h vs hl')
  simp [builtin, hx, hr, Result.andThen]
end

/-! ### steps of a region that draws its order -/
section
variable {P : Program} {ops : Array Oper} {o : Oper} {a : Act} {w : World} {K : Act → World → Prop} {Q : Exit → Act → World → Prop} {E : Prop}
theorem step_wanted (hg : o.guard = none) (h : Oper.wp P o a w K Q) : if Region.wanted o (yielded ops a.tmps) = true then Oper.wp P o a w K Q else E := by
  rw [if_pos (by simp [Region.wanted, hg])]; exact h
/-- a call by its contract -/
theorem step_call (hg : o.guard = none) (f : FuncId) (args : Array Value) (hrun : (execOp a.eval o).run P w = .ok (.enter f args) w) {Post : Ending → World → Prop} (hc : Calls P f args w Post) (h : ∀ e w', Post e w' → ∃ v, e = .returned v ∧ K (a.put o.dst v) w') :
    if Region.wanted o (yielded ops a.tmps) = true then Oper.wp P o a w K Q else E := by
  refine step_wanted hg ?_
  unfold Oper.wp
  rw [hrun, Oper.upon_enter]
  refine hc.mono fun e w'' hh => ?_
  obtain ⟨v, rfl, hk⟩ := h e w'' hh
  exact hk
theorem step_append1 {α : Type} {r : Rp α} {F : Nat → Prop} {xs : List α} {v : Value} {s x : Operand} {t e : TypeId} {z : Value} {bytes : Nat} {y : α} {d : Option Tmp} {ty : TypeId} {pos : String} {af : Array Edge}
    (ht : P.underlying t = some (.slice e)) (hinfo : (P.info? e).map (fun i => (i.zero, i.size, i.bytes)) = some (some z, r.sz, bytes)) (hzs : z.cells.size = r.sz) (hsz : 0 < r.sz)
    (hown : Own r e w F xs v) (hs : a.eval s = v) {cs : Array Value} (hx : a.eval x = .slice (some ⟨w.heap.size, 0, none⟩) 1 1) {G : Nat → Prop} (hy : r.rep w G y cs.toList) (hG : ∀ k, G k → some k ≠ v.ownBlock)
    (h63 : xs.length < 1099511627776) (hb : bytes ≤ 100)
    (h : ∀ v' w', Own r e w' (fun k => F k ∨ G k ∨ w.heap.size ≤ k) (xs ++ [y]) v' → Keep (fun k => some k = v.ownBlock) w w' → K (a.put d v') w') :
    if Region.wanted ⟨d, .call ⟨.builtin .append, #[s, x], #[t, t]⟩, ty, pos, af, none⟩ (yielded ops a.tmps) = true then Oper.wp P ⟨d, .call ⟨.builtin .append, #[s, x], #[t, t]⟩, ty, pos, af, none⟩ a (w.alloc (.cells cs e)) K Q else E := by
  refine step_wanted rfl ?_
  have hown' := hown.alloc (.cells cs e)
  have hy' : r.rep (w.alloc (.cells cs e)) (fun k => G k ∧ k < w.heap.size) y cs.toList := r.step (fun k hk => Below.heap_alloc _ _ _ hk.2) (r.bnd hy)
  have hat : At (w.alloc (.cells cs e)) w.heap.size 0 cs.toList := fun j u hu => by
    rw [blk_cell (blk_new w _)]; simpa using hu
  have hmul : (xs.length + [y].length) * bytes ≤ 140737488355328 := by
    have : (xs.length + 1) * bytes ≤ 1099511627776 * 100 := Nat.mul_le_mul (by omega) hb
    simp only [List.length_cons, List.length_nil, Nat.zero_add]; omega
  obtain ⟨v', w', hr, ho, hk, hn, hb'⟩ := run_append_rows (ty := ty) (c := 1) ht hinfo hzs hsz hown' hat (Elems.one hy') (fun k hk => hG k hk.1) (by simp only [List.length_cons, List.length_nil]; unfold maxLen; omega) hmul
  unfold Oper.wp
  rw [exec_append (v := v') (w' := w') (by simpa [hs, hx] using hr)]
  refine h v' w' (ho.mono ?_) ⟨hk.os, hk.tape, hk.output, ?_, ?_⟩
  · intro k hk'
    rcases hk' with h1 | h1 | h1
    · exact .inl h1
    · exact .inr (.inl h1.1)
    · exact .inr (.inr (by simp at h1; omega))
  · have := hk.size; simp at this; omega
  · intro k hk' hne
    exact (hk.block k (by simp; omega) hne).trans (Below.heap_alloc _ _ _ hk')
end

/-! ### parts of a slice -/
theorem View.take {α : Type} {d : Rp α} {w : World} {F : Nat → Prop} {xs : List α} {A : Option Addr} {n c : Nat} (h : View d w F xs (.slice A n c)) (k : Nat) (hk : k ≤ xs.length) (h0 : A = none → k = 0 ∧ c = 0) : View d w F (xs.take k) (.slice A k c) := by
  obtain ⟨A', c', e, hc, hA, h⟩ := h
  cases e
  have hl : (xs.take k).length = k := by rw [List.length_take]; omega
  refine ⟨A, c, by rw [hl], by omega, hA, ?_⟩
  rcases h with rfl | ⟨b, off, cells, rfl, hF, hlt, hat, hel⟩
  · exact .inl (by simp)
  · have e : xs = xs.take k ++ xs.drop k := (List.take_append_drop k xs).symm
    have h' : Elems (d.rep w F) (xs.take k ++ xs.drop k) cells := e ▸ hel
    obtain ⟨us, vs, rfl, h1, _⟩ := h'.split
    exact .inr ⟨b, off, us, rfl, hF, hlt, hat.left, h1⟩
/-- a slice from element k on: where it begins -/
theorem View.drop {α : Type} {d : Rp α} {w : World} {F : Nat → Prop} {xs : List α} {b off n c : Nat} (h : View d w F xs (.slice (some ⟨b, off, none⟩) n c)) (k : Nat) (hk : k ≤ xs.length) :
    View d w F (xs.drop k) (.slice (if c = k then some ⟨b, off, none⟩ else some ⟨b, off + k * d.sz, none⟩) (xs.length - k) (c - k)) := by
  obtain ⟨A', c', e, hc, hA, h⟩ := h
  cases e
  have hl : (xs.drop k).length = xs.length - k := List.length_drop
  refine ⟨_, c - k, by rw [hl], by omega, by split <;> simp, ?_⟩
  rcases h with rfl | ⟨b, off, cells, e, hF, hlt, hat, hel⟩
  · exact .inl (by simp)
  · cases e
    by_cases hck : c = k
    · exact .inl (List.drop_of_length_le (by omega))
    · have e : xs = xs.take k ++ xs.drop k := (List.take_append_drop k xs).symm
      have h' : Elems (d.rep w F) (xs.take k ++ xs.drop k) cells := e ▸ hel
      obtain ⟨us, vs, rfl, h1, h2⟩ := h'.split
      have hul : us.length = k * d.sz := by rw [h1.len fun _ _ h => d.len h, List.length_take]; congr 1; omega
      refine .inr ⟨b, off + k * d.sz, vs, by rw [if_neg hck], hF, hlt, ?_, h2⟩
      have := hat.right
      rwa [hul] at this

end Go.Proofs.Ytlfcbhagbdonhaa.Pb
