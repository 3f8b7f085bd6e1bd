/-
  Maps from texts to blocks, as a disk has them: looked up, stored into, ranged over.
  Lengths within the rows' own reach.
-/
import Derived.Test.YtlfcbhagbdonhaaDkP
import Derived.Test.YtlfcbhagbdonhaaMore
import Derived.Test.YtlfcbhagbdonhaaProg
import Derived.Deep.QuietTactic
import Derived.BigQuiet
import Derived.Outline
import Derived.Deep.DeepCutAuto
import Derived.Deep.CutBlock
import Derived.RegionTactic
import Derived.Maps.RangeWalk
import Derived.Maps.OwnSet
namespace Go.Proofs.Ytlfcbhagbdonhaa.Asc
set_option linter.unusedSimpArgs false
set_option linter.unusedVariables false
open Go Go.RowKit Go.Proofs.Ytlfcbhagbdonhaa.Pb

theorem law_str : Maps.Keyed Try.prog 9 := Maps.string_keyed Try.underlying9
def ptrOf : Option Nat → Value
  | none => .pointer none
  | some b => .pointer (some ⟨b, 0, none⟩)
def codeOf : Option Nat → Int
  | none => -1
  | some b => b
theorem codeOf_inj {a b : Option Nat} (h : codeOf a = codeOf b) : a = b := by
  cases a <;> cases b <;> simp [codeOf] at h ⊢ <;> omega
/-- how an element reads: the number of a block -/
def ptrElem : Value → Option (DataW Unit × List MemPlace)
  | .pointer none => some (.lit (.int .i64 (-1)), [])
  | .pointer (some ⟨b, 0, none⟩) => some (.lit (.int .i64 b), [])
  | _ => none
theorem ptrElem_of (o : Option Nat) : ptrElem (ptrOf o) = some (.lit (.int .i64 (codeOf o)), []) := by cases o <;> rfl
theorem ptrElem_inv {v : Value} {z : DataW Unit × List MemPlace} (h : ptrElem v = some z) : ∃ o, v = ptrOf o ∧ z = (.lit (.int .i64 (codeOf o)), []) := by
  unfold ptrElem at h
  split at h
  · cases h; exact ⟨none, rfl, rfl⟩
  · cases h; rename_i b; exact ⟨some b, rfl, rfl⟩
  · cases h
theorem keyOf_txt {S : ByteArray} (h : S.size ≤ 1000000) : keyOf Try.prog 9 (.string S) = some (.string (toL S)) :=
  WideMaps.keyOf_string_mk Try.underlying9 (by unfold maxLen; omega)
theorem lit_code {a b : Int} {ps qs : List MemPlace} (h : ((DataW.lit (.int .i64 a) : DataW Unit), ps) = (DataW.lit (.int .i64 b), qs)) : a = b := by
  simp at h; exact h.1
theorem isKey_txt (s : Tx) : WideAt.IsKeyLit (.string s) := trivial
theorem lit_ne {s t : Tx} (h : s ≠ t) : (Lit.string s) ≠ Lit.string t := fun e => h (by cases e; rfl)

structure MapFacts (D : DataW Unit) (g : Tx → Option Nat) (N : Nat) : Prop where
  size : Maps.size D = N
  has : ∀ s : Tx, Maps.has D (.string s) = (g s).isSome
  at' : ∀ (s : Tx) b, g s = some b → ∀ zd, D.atKey (.string s) zd = .lit (.int .i64 b)
/-- block mb is a map of N texts to blocks: g -/
def MapAt (w : World) (mb : Nat) (g : Tx → Option Nat) (N : Nat) : Prop := ∃ D, w.ownsMap (H := Unit) Try.prog 9 ptrElem mb N D ∧ MapFacts D g N
theorem MapAt.lt {w : World} {mb : Nat} {g : Tx → Option Nat} {N : Nat} (h : MapAt w mb g N) : mb < w.heap.size := by
  obtain ⟨D, h, _⟩ := h; exact h.lt
theorem MapAt.move {w w' : World} {mb : Nat} {g : Tx → Option Nat} {N : Nat} (h : MapAt w mb g N) (hm : w'.heap[mb]? = w.heap[mb]?) : MapAt w' mb g N := by
  obtain ⟨D, ⟨es, clock, hb, F, hs, hD⟩, h2⟩ := h
  exact ⟨D, ⟨es, clock, hm.trans hb, F, hs, hD⟩, h2⟩
theorem tight {w : World} {mb n : Nat} {D : DataW Unit} (h : w.ownsMap (H := Unit) Try.prog 9 ptrElem mb n D) : w.ownsMap (H := Unit) Try.prog 9 ptrElem mb (Maps.size D) D := by
  obtain ⟨es, clock, hb, F, hs, rfl⟩ := h
  exact ⟨es, clock, hb, F, by simp only [Maps.size, length_sorted]; simp, rfl⟩
theorem MapAt.made (w : World) : MapAt (w.alloc (.map #[] 0)) w.heap.size (fun _ => none) 0 :=
  ⟨_, World.ownsMap_made w _ _ _, rfl, fun _ => rfl, fun _ _ h => by cases h⟩

theorem zero_ptr (w : World) : (zeroValue 65).run Try.prog w = .ok (.pointer none) w := by kernel_rfl
/-- 'v, ok := m[s]' -/
theorem MapAt.look_ok {w : World} {mb : Nat} {g : Tx → Option Nat} {N : Nat} (h : MapAt w mb g N) {S : ByteArray} (hS : S.size ≤ 1000000) :
    (Instr.lookup 59 (.map (some mb)) (.string S) true).run Try.prog w = .ok (.tuple #[ptrOf (g (toL S)), .bool (g (toL S)).isSome]) w := by
  obtain ⟨D, h1, h2⟩ := h
  obtain ⟨v, ps, hrun, hv⟩ := h1.look_ok law_str Try.underlying59 (zero_ptr w) (ptrElem_of none) (keyOf_txt hS)
  obtain ⟨o, rfl, ho⟩ := ptrElem_inv hv
  rw [hrun, h2.has]
  cases hg : g (toL S) with
  | some b =>
    rw [h2.at' _ b hg] at ho
    rw [codeOf_inj (a := o) (b := some b) (lit_code ho).symm]
  | none =>
    rw [Maps.atKey_of_not_has (by rw [h2.has, hg]; rfl)] at ho
    rw [codeOf_inj (a := o) (b := none) (lit_code ho).symm]
/-- 'm[s]' -/
theorem MapAt.look {w : World} {mb : Nat} {g : Tx → Option Nat} {N : Nat} (h : MapAt w mb g N) {S : ByteArray} (hS : S.size ≤ 1000000) :
    (Instr.lookup 59 (.map (some mb)) (.string S) false).run Try.prog w = .ok (ptrOf (g (toL S))) w := by
  obtain ⟨D, h1, h2⟩ := h
  obtain ⟨v, ps, hrun, hv⟩ := h1.lookup law_str Try.underlying59 (zero_ptr w) (ptrElem_of none) (keyOf_txt hS)
  obtain ⟨o, rfl, ho⟩ := ptrElem_inv hv
  rw [hrun]
  cases hg : g (toL S) with
  | some b =>
    rw [h2.at' _ b hg] at ho
    rw [codeOf_inj (a := o) (b := some b) (lit_code ho).symm]
  | none =>
    rw [Maps.atKey_of_not_has (by rw [h2.has, hg]; rfl)] at ho
    rw [codeOf_inj (a := o) (b := none) (lit_code ho).symm]
theorem nil_look_ok (w : World) {S : ByteArray} (hS : S.size ≤ 1000000) :
    (Instr.lookup 59 (.map none) (.string S) true).run Try.prog w = .ok (.tuple #[.pointer none, .bool false]) w :=
  Maps.look_nil true law_str Try.underlying59 (zero_ptr w) (keyOf_txt hS)
theorem nil_look (w : World) {S : ByteArray} (hS : S.size ≤ 1000000) :
    (Instr.lookup 59 (.map none) (.string S) false).run Try.prog w = .ok (.pointer none) w :=
  Maps.look_nil false law_str Try.underlying59 (zero_ptr w) (keyOf_txt hS)
theorem MapAt.len {w : World} {mb : Nat} {g : Tx → Option Nat} {N : Nat} (h : MapAt w mb g N) (ty : TypeId) : (Builtin.len_ #[59] ty #[.map (some mb)]).run Try.prog w = .ok (.int .i64 N) w := by
  obtain ⟨D, h1, h2⟩ := h
  rw [h1.len Try.underlying59 ty, h2.size]
theorem nil_len (w : World) (ty : TypeId) : (Builtin.len_ #[59] ty #[.map none]).run Try.prog w = .ok (.int .i64 0) w := Maps.len_nil Try.underlying59 ty

def upd (g : Tx → Option Nat) (s : Tx) (o : Option Nat) : Tx → Option Nat := fun t => if t = s then o else g t
theorem MapFacts.put {D : DataW Unit} {g : Tx → Option Nat} {N : Nat} (h : MapFacts D g N) (hT : Maps.Tidy D) (s : Tx) (b : Nat) : MapFacts (D.put (.string s) (.lit (.int .i64 b))) (upd g s (some b)) (if (g s).isSome then N else N + 1) := by
  refine ⟨by rw [Maps.size_put hT, h.size, h.has], fun t => ?_, fun t c hc zd => ?_⟩
  · unfold upd
    by_cases e : t = s
    · rw [if_pos e, e, Maps.has_put_same hT.isMap (isKey_txt s)]; rfl
    · rw [if_neg e, Maps.has_put_other (lit_ne e), h.has]
  · unfold upd at hc
    by_cases e : t = s
    · rw [if_pos e] at hc; cases hc
      rw [e, Maps.atKey_put_same hT.isMap (isKey_txt s)]
    · rw [if_neg e] at hc
      rw [Maps.atKey_put_other (lit_ne e)]; exact h.at' t c hc zd
theorem MapFacts.del {D : DataW Unit} {g : Tx → Option Nat} {N : Nat} (h : MapFacts D g N) (hT : Maps.Tidy D) (s : Tx) : MapFacts (D.del (.string s)) (upd g s none) (if (g s).isSome then N - 1 else N) := by
  refine ⟨?_, fun t => ?_, fun t c hc zd => ?_⟩
  · have h1 := Maps.size_del (k := .string s) hT
    rw [h.size, h.has] at h1
    split <;> rename_i e
    · rw [if_pos e] at h1; omega
    · rw [if_neg e] at h1; omega
  · unfold upd
    by_cases e : t = s
    · rw [if_pos e, e, Maps.has_del_same]; rfl
    · rw [if_neg e, Maps.has_del_other (lit_ne e), h.has]
  · unfold upd at hc
    by_cases e : t = s
    · rw [if_pos e] at hc; cases hc
    · rw [if_neg e] at hc
      rw [Maps.atKey_del_other (lit_ne e)]; exact h.at' t c hc zd
/-- 'm[s] = p' -/
theorem MapAt.store {w : World} {mb : Nat} {g : Tx → Option Nat} {N : Nat} (h : MapAt w mb g N) (hN : N < 1000000) {S : ByteArray} (hS : S.size ≤ 1000000) (b : Nat) :
    ∃ w', (Instr.mapUpdate 59 (.map (some mb)) (.string S) (.pointer (some ⟨b, 0, none⟩))).run Try.prog w = .ok () w' ∧ MapAt w' mb (upd g (toL S) (some b)) (if (g (toL S)).isSome then N else N + 1) ∧ w.mapTurned w' mb := by
  obtain ⟨D, h1, h2⟩ := h
  obtain ⟨w', hrun, k1, k2⟩ := h1.store law_str Try.underlying59 (by unfold maxLen; omega) (keyOf_txt hS) (ptrElem_of (some b))
  have hp := h2.put (h1.tidy law_str) (toL S) b
  exact ⟨w', hrun, ⟨_, by have := tight k1; rwa [show Maps.size (D.put (.string (toL S)) (.lit (.int .i64 (codeOf (some b))))) = _ from hp.size] at this, hp⟩, k2⟩
/-- 'delete(m, s)' -/
theorem MapAt.drop {w : World} {mb : Nat} {g : Tx → Option Nat} {N : Nat} (h : MapAt w mb g N) {S : ByteArray} (hS : S.size ≤ 1000000) (ty : TypeId) :
    ∃ w', (Builtin.delete_ #[59, 9] ty #[.map (some mb), .string S]).run Try.prog w = .ok (.tuple #[]) w' ∧ MapAt w' mb (upd g (toL S) none) (if (g (toL S)).isSome then N - 1 else N) ∧ w.mapTurned w' mb := by
  obtain ⟨D, h1, h2⟩ := h
  obtain ⟨w', hrun, k1, k2⟩ := h1.drop law_str Try.underlying59 (keyOf_txt hS) ty
  have hp := h2.del (h1.tidy law_str) (toL S)
  exact ⟨w', hrun, ⟨_, by have := tight k1; rwa [hp.size] at this, hp⟩, k2⟩
theorem turned_keep {w w' : World} {b : Nat} (h : w.mapTurned w' b) : Keep (fun k => k = b) w w' := by
  have hg := h.grown
  exact ⟨hg.os, hg.tape, hg.output, hg.size, fun i hi hne => hg.block i hi fun e => hne (by cases e; rfl)⟩

/-! ### a range under way -/
def RangeAt (w : World) (mb r : Nat) (g : Tx → Option Nat) (N : Nat) (left : Tx → Bool) (cnt : Nat) : Prop :=
  ∃ D lf, w.ranges (H := Unit) Try.prog 9 ptrElem mb r N D lf cnt ∧ MapFacts D g N ∧ ∀ s : Tx, lf (.string s) = left s
theorem RangeAt.map {w : World} {mb r : Nat} {g : Tx → Option Nat} {N : Nat} {left : Tx → Bool} {cnt : Nat} (h : RangeAt w mb r g N left cnt) : MapAt w mb g N := by
  obtain ⟨D, lf, h1, h2, _⟩ := h; exact ⟨D, h1.owns, h2⟩
theorem RangeAt.lt {w : World} {mb r : Nat} {g : Tx → Option Nat} {N : Nat} {left : Tx → Bool} {cnt : Nat} (h : RangeAt w mb r g N left cnt) : r < w.heap.size := by
  obtain ⟨D, lf, h1, _⟩ := h; exact h1.lt
theorem RangeAt.count {w : World} {mb r : Nat} {g : Tx → Option Nat} {N : Nat} {left : Tx → Bool} {cnt : Nat} (h : RangeAt w mb r g N left cnt) : w.rangeLeft mb r = cnt := by
  obtain ⟨D, lf, h1, _⟩ := h; exact h1.left_eq
theorem RangeAt.move {w w' : World} {mb r : Nat} {g : Tx → Option Nat} {N : Nat} {left : Tx → Bool} {cnt : Nat} (h : RangeAt w mb r g N left cnt) (hm : w'.heap[mb]? = w.heap[mb]?) (hr : w'.heap[r]? = w.heap[r]?) : RangeAt w' mb r g N left cnt := by
  obtain ⟨D, lf, ⟨es, clock, since, seen, c0, hb, F, hs, hD, hrr, rest⟩, h2⟩ := h
  exact ⟨D, lf, ⟨es, clock, since, seen, c0, hm.trans hb, F, hs, hD, hr.trans hrr, rest⟩, h2⟩
theorem MapAt.range {w : World} {mb : Nat} {g : Tx → Option Nat} {N : Nat} (h : MapAt w mb g N) :
    ∃ w', (Instr.range 59 (.map (some mb))).run Try.prog w = .ok (.pointer (some ⟨w.heap.size, 0, none⟩)) w' ∧ RangeAt w' mb w.heap.size g N (fun s => (g s).isSome) N ∧ Keep (fun _ => False) w w' ∧ w'.heap.size = w.heap.size + 1 := by
  obtain ⟨D, h1, h2⟩ := h
  obtain ⟨w', hrun, k1, k2, k3⟩ := h1.range law_str Try.underlying59
  refine ⟨w', hrun, ⟨D, _, by rw [h2.size] at k1; exact k1, h2, fun s => h2.has s⟩, ⟨k2.os, k2.tape, k2.output, k2.size, fun i hi _ => k2.block i hi (by simp)⟩, k3⟩
theorem RangeAt.next {w : World} {mb r : Nat} {g : Tx → Option Nat} {N : Nat} {left : Tx → Bool} {cnt : Nat} (h : RangeAt w mb r g N left cnt) (hg : ∀ s, left s = true → (g s).isSome = true) (ty : TypeId) :
    (cnt = 0 ∧ (∀ s, left s = false) ∧ (Instr.next (.pointer (some ⟨r, 0, none⟩)) false ty).run Try.prog w = .ok (.tuple #[.bool false]) w) ∨
    ∃ (S : ByteArray) (b : Nat) (w' : World) (cnt' : Nat), left (toL S) = true ∧ g (toL S) = some b ∧ (Instr.next (.pointer (some ⟨r, 0, none⟩)) false ty).run Try.prog w = .ok (.tuple #[.bool true, .string S, .pointer (some ⟨b, 0, none⟩)]) w' ∧
      RangeAt w' mb r g N (fun z => left z && z != toL S) cnt' ∧ cnt' < cnt ∧ Keep (fun k => k = r) w w' ∧ (Instr.entry (.pointer (some ⟨r, 0, none⟩))).run Try.prog w' = .ok (.tuple #[.string S, .pointer (some ⟨b, 0, none⟩)]) w' := by
  obtain ⟨D, lf, h1, h2, h3⟩ := h
  rcases h1.next law_str ty with ⟨k1, k2, k3⟩ | ⟨key, v, kl, y, w', cnt', k1, k2, k3, k4, k5, k6, k7, k8, k9, k10⟩
  · exact .inl ⟨k1, fun s => by rw [← h3]; exact k2 _, k3⟩
  · refine .inr ?_
    obtain ⟨o, rfl, rfl⟩ := ptrElem_inv k3
    obtain ⟨S, rfl, rfl, _⟩ := WideMaps.string_of_keyOf Try.underlying9 k1
    have hl : left (toL S) = true := by rw [← h3]; exact k2
    obtain ⟨b, hb⟩ := Option.isSome_iff_exists.1 (hg _ hl)
    have hat := h2.at' _ b hb (.lit (.int .i64 0))
    have hat' := k4 (.lit (.int .i64 0))
    rw [show (Lit.string (toL S)) = .string S.data.toList from rfl] at hat
    rw [hat] at hat'
    obtain rfl : some b = o := codeOf_inj (lit_code (a := codeOf (some b)) (ps := []) (qs := []) (by rw [show DataW.lit (.int .i64 (codeOf (some b))) = _ from hat']))
    refine ⟨S, b, w', cnt', hl, hb, k5, ⟨D, _, k6, h2, fun s => ?_⟩, k7, ⟨k8.os, k8.tape, k8.output, k8.size, fun i hi hne => k8.block i hi fun e => hne (by cases e; rfl)⟩, k10⟩
    rw [h3]
    by_cases e : s = toL S
    · have hsk : (Lit.string s).sameKey (.string S.data.toList) = true := by rw [e]; exact WideAt.sameKey_self (isKey_txt _)
      rw [hsk, e]; simp
    · have hsk : (Lit.string s).sameKey (.string S.data.toList) = false := Maps.sameKey_ne (lit_ne e)
      rw [hsk]; simp [e]
end Go.Proofs.Ytlfcbhagbdonhaa.Asc
