/-
  From what the form reads of an argument to the words of this seat: numbers, bools, texts, slices, structs, to any depth, each within the form's own reach.
  No condition; nothing here speaks of the program.
-/
import Derived.Test.YtlfcbhagbdonhaaBase
import Derived.ChangeArms
import Derived.DataReads
import Derived.SizedLaws
import Derived.HandedShaped
import Derived.Handed
namespace Go.Proofs.Ytlfcbhagbdonhaa.Pb
open Go Go.RowKit

section
variable {H : Type} (enc : TypeId × Value → H) (P : Program) {α β : Type}

/-- What is read at type t is a datum of kind d, and meets bd. -/
def Opens (d : Rp α) (bd : α → Prop) (t : TypeId) : Prop :=
  ∀ (w : World) (fuel : Nat) (cs : List Value) (x : DataW H × List MemPlace), DataW.trod enc P w 0 (fun _ => true) true fuel t cs = some x → (x.1.weights P t).all (fun n => decide (n ≤ reachBytes)) = true →
    ∃ a : α, d.rep w (fun _ => True) a cs ∧ bd a

variable {enc P}
theorem Opens.int {t : TypeId} (ht : P.underlying t = some (.int .i64)) : Opens enc P Rp.int (fun n => -9223372036854775808 ≤ n ∧ n ≤ 9223372036854775807) t := by
  intro w fuel cs x h _
  obtain ⟨n, rfl, _, hw⟩ := DataW.trod_int ht h
  refine ⟨n, rfl, ?_⟩
  simp [Lit.wf, IntKind.min, IntKind.max, IntKind.signed, IntKind.bits] at hw
  omega
theorem Opens.u8 {t : TypeId} (ht : P.underlying t = some (.int .u8)) : Opens enc P Rp.u8 (fun _ => True) t := by
  intro w fuel cs x h _
  obtain ⟨n, rfl, _, hw⟩ := DataW.trod_int ht h
  refine ⟨UInt8.ofNat n.toNat, ?_, trivial⟩
  simp [Lit.wf, IntKind.min, IntKind.max, IntKind.signed, IntKind.bits] at hw
  show [_] = [u8v _]
  unfold u8v
  rw [UInt8.toNat_ofNat']
  congr 2; omega
theorem Opens.bool {t : TypeId} (ht : P.underlying t = some .bool) : Opens enc P Rp.bool (fun _ => True) t := by
  intro w fuel cs x h _
  obtain ⟨b, rfl, _⟩ := DataW.trod_bool ht h
  exact ⟨b, rfl, trivial⟩
theorem Opens.str {t : TypeId} (ht : P.underlying t = some .string) : Opens enc P Rp.str (fun l => l.length ≤ 140737488351232) t := by
  intro w fuel cs x h hz
  obtain ⟨s, rfl, rfl, _⟩ := DataW.trod_string ht h
  refine ⟨toL s, by rw [Rp.str]; rfl, ?_⟩
  simp only [DataW.weights, List.all_cons, List.all_nil, Bool.and_true, reachBytes] at hz
  exact of_decide_eq_true hz
theorem Opens.iso {d : Rp β} {bd : β → Prop} {t : TypeId} (h : Opens enc P d bd t) (f : α → β) (g : β → α) (hfg : ∀ b, f (g b) = b) : Opens enc P (d.iso f) (fun a => bd (f a)) t := by
  intro w fuel cs x hx hz
  obtain ⟨b, h1, h2⟩ := h w fuel cs x hx hz
  exact ⟨g b, by show d.rep _ _ (f (g b)) _; rw [hfg]; exact h1, by show bd (f (g b)); rw [hfg]; exact h2⟩

theorem weightsAll_mem {t : TypeId} {l : List (DataW H)} (h : (DataW.weightsAll P t l).all (fun n => decide (n ≤ reachBytes)) = true) : ∀ y ∈ l, (y.weights P t).all (fun n => decide (n ≤ reachBytes)) = true := by
  induction l with
  | nil => intro y hy; simp at hy
  | cons x l ih =>
    rw [DataW.weightsAll, List.all_append, Bool.and_eq_true] at h
    intro y hy
    rcases List.mem_cons.1 hy with rfl | hy
    · exact h.1
    · exact ih h.2 y hy
theorem weightsEach_get {ts : List TypeId} {l : List (DataW H)} (h : (DataW.weightsEach P ts l).all (fun n => decide (n ≤ reachBytes)) = true) : ∀ (i : Nat) t y, ts[i]? = some t → l[i]? = some y → (y.weights P t).all (fun n => decide (n ≤ reachBytes)) = true := by
  induction ts generalizing l with
  | nil => intro i t y ht; simp at ht
  | cons t0 ts ih =>
    intro i t y ht hy
    cases l with
    | nil => simp at hy
    | cons x l =>
      rw [DataW.weightsEach, List.all_append, Bool.and_eq_true] at h
      cases i with
      | zero => simp at ht hy; subst ht; subst hy; exact h.1
      | succ i => exact ih h.2 i t y (by simpa using ht) (by simpa using hy)

theorem addr_add_add (a : Addr) (m j : Nat) : (a.add m).add j = a.add (m + j) := by
  unfold Addr.add
  by_cases hm : m = 0
  · subst hm; simp
  · by_cases hj : j = 0
    · subst hj; simp
    · simp [hm, hj, Nat.add_assoc]

/-- elements, one by one -/
theorem elems_of {d : Rp α} {bd : α → Prop} {e : TypeId} {w : World} {a : Addr} {fuel : Nat} (hd : Opens enc P d bd e) :
    ∀ (elems : List (DataW H × List MemPlace)) (k : Nat), (∀ i, i < elems.length → (w.cells? 0 (a.add ((k + i) * P.cellsOf e)) (P.cellsOf e)).bind (DataW.trod enc P w 0 (fun _ => true) true fuel e) = elems[i]?) →
      (∀ y ∈ elems, (y.1.weights P e).all (fun n => decide (n ≤ reachBytes)) = true) →
      ∃ (xs : List α) (cells : List Value), xs.length = elems.length ∧ Elems (d.rep w (fun _ => True)) xs cells ∧ (∀ x ∈ xs, bd x) ∧ cells.length = elems.length * P.cellsOf e ∧ ∀ j u, cells[j]? = some u → w.cell? (a.add (k * P.cellsOf e + j)) = some u := by
  intro elems
  induction elems with
  | nil => intro k _ _; exact ⟨[], [], rfl, rfl, by simp, by simp, by simp⟩
  | cons y ys ih =>
    intro k hel hw
    obtain ⟨xs, cells, h1, h2, h3, h4, h5⟩ := ih (k + 1) (fun i hi => by
      have := hel (i + 1) (by simp; omega)
      rw [show k + 1 + i = k + (i + 1) by omega]
      simpa using this) (fun y hy => hw y (by simp [hy]))
    have h0 := hel 0 (by simp)
    simp only [Nat.add_zero, List.getElem?_cons_zero] at h0
    cases hc : w.cells? 0 (a.add (k * P.cellsOf e)) (P.cellsOf e) with
    | none => rw [hc] at h0; simp at h0
    | some cs =>
      rw [hc] at h0
      simp only [Option.bind_some] at h0
      obtain ⟨x, hx1, hx2⟩ := hd w fuel cs y h0 (hw y (by simp))
      obtain ⟨_, hl, hcell⟩ := World.cells?_some hc
      refine ⟨x :: xs, cs ++ cells, by simp [h1], ⟨cs, cells, rfl, hx1, h2⟩, ?_, ?_, ?_⟩
      · intro z hz
        rcases List.mem_cons.1 hz with rfl | hz
        · exact hx2
        · exact h3 z hz
      · rw [List.length_append, hl, h4, List.length_cons, Nat.succ_mul]; omega
      · intro j u hu
        by_cases hj : j < cs.length
        · rw [List.getElem?_append_left hj] at hu
          have := hcell j (by omega)
          rw [hu] at this
          rw [← this, addr_add_add]
        · rw [List.getElem?_append_right (by omega)] at hu
          have := h5 (j - cs.length) u hu
          rw [← this]
          congr 2
          rw [hl] at hj ⊢
          rw [Nat.succ_mul]
          omega

theorem spot_of {w : World} {a : Addr} {u : Value} (h : w.cell? a = some u) : a = ⟨a.block, a.off, none⟩ := by
  obtain ⟨b, o, sp⟩ := a
  unfold World.cell? at h
  cases sp with
  | none => rfl
  | some s => simp only [Option.isSome_some, if_true] at h; split at h <;> simp at h

theorem Opens.slice {d : Rp α} {bd : α → Prop} {t e : TypeId} (ht : P.underlying t = some (.slice e)) (hsz : P.cellsOf e = d.sz) (hpos : 0 < d.sz) (hd : Opens enc P d bd e) :
    Opens enc P d.view (fun l => l.length * P.bytesOf e ≤ 140737488351232 ∧ ∀ x ∈ l, bd x) t := by
  intro w fuel cs x h hz
  rcases DataW.trod_slice ht h with ⟨rfl, rfl⟩ | ⟨a, len, cap, elems, rest, n, rfl, rfl, rfl, _, hl, hm, hlen, hel, _, _⟩
  · exact ⟨[], ⟨_, rfl, View.nil _ _ _⟩, by simp⟩
  · simp only [DataW.weights, ht] at hz
    rw [List.all_cons, Bool.and_eq_true, List.all_append, Bool.and_eq_true] at hz
    obtain ⟨z1, z2, _⟩ := hz
    have z1' := of_decide_eq_true z1
    simp only [List.length_map, reachBytes] at z1'
    have hw := weightsAll_mem z2
    obtain ⟨xs, cells, h1, h2, h3, h4, h5⟩ := elems_of (w := w) (a := a) (fuel := n) hd elems 0 (fun i hi => by rw [Nat.zero_add]; exact hel i (by omega)) (fun y hy => hw y.1 (List.mem_map_of_mem hy))
    have hxl : xs.length = len := by omega
    refine ⟨xs, ⟨_, rfl, some a, cap, by rw [hxl], by omega, by simp, ?_⟩, ?_, h3⟩
    · by_cases hx : xs = []
      · exact .inl hx
      · have hcl : 0 < cells.length := by
          rw [h4, hsz, ← h1]
          exact Nat.mul_pos (List.length_pos_iff.2 hx) hpos
        have hc0 := h5 0 cells[0] (List.getElem?_eq_getElem hcl)
        rw [Nat.zero_mul, Nat.add_zero, show a.add 0 = a from rfl] at hc0
        have ha := spot_of hc0
        refine .inr ⟨a.block, a.off, cells, by rw [← ha], trivial, ?_, fun j u hu => ?_, h2⟩
        · exact World.block_lt_of_cell? w _ hc0
        · have := h5 j u hu
          rw [Nat.zero_mul, Nat.zero_add, ha, add_off] at this
          exact this
    · refine Nat.le_trans (Nat.mul_le_mul_right _ ?_) z1'
      omega

/-- an argument that is a slice -/
theorem Opens.arg {d : Rp α} {bd : List α → Prop} {t : TypeId} (h : Opens enc P d.view bd t) {w : World} {a : Option Addr} {len cap : Nat} {y : DataW H} {p : List MemPlace} (hy : DataW.Trod enc P w 0 (fun _ => true) true t (.slice a len cap) y p)
    (hz : (y.weights P t).all (fun n => decide (n ≤ reachBytes)) = true) : ∃ xs, View d w (fun _ => True) xs (.slice a len cap) ∧ bd xs := by
  obtain ⟨fuel, hf⟩ := hy
  obtain ⟨xs, ⟨v, e, hv⟩, hb⟩ := h w fuel _ _ hf hz
  simp only [Value.cells, List.cons.injEq, and_true] at e
  exact ⟨xs, e ▸ hv, hb⟩

/-- an argument that is a struct -/
theorem Opens.argS {β : Type} {d : Rp β} {bd : β → Prop} {t : TypeId} (h : Opens enc P d bd t) {w : World} {cs : Array Value} {y : DataW H} {p : List MemPlace} (hy : DataW.Trod enc P w 0 (fun _ => true) true t (.agg cs) y p)
    (hz : (y.weights P t).all (fun n => decide (n ≤ reachBytes)) = true) : ∃ x, d.rep w (fun _ => True) x cs.toList ∧ bd x := by
  obtain ⟨fuel, hf⟩ := hy
  exact h w fuel _ _ hf hz

/-! structs, field by field -/
variable (enc P)
def OpensF (d : Rp α) (bd : α → Prop) (fs : List Field) (o : Nat) : Prop :=
  ∀ (w : World) (n : Nat) (cs : List Value) (xs : List (DataW H × List MemPlace)), cs.length = o + d.sz → xs.length = fs.length →
    (∀ (i : Nat) (f : Field), fs[i]? = some f → DataW.trod enc P w 0 (fun _ => true) true n f.type ((cs.drop f.offset).take (P.cellsOf f.type)) = xs[i]?) →
    (DataW.weightsEach P (fs.map (·.type)) (xs.map (·.1))).all (fun n => decide (n ≤ reachBytes)) = true →
    ∃ a : α, d.rep w (fun _ => True) a (cs.drop o) ∧ bd a
variable {enc P}
theorem OpensF.last {d : Rp α} {bd : α → Prop} {f : Field} {o : Nat} (ho : f.offset = o) (hs : P.cellsOf f.type = d.sz) (h : Opens enc P d bd f.type) : OpensF enc P d bd [f] o := by
  intro w n cs xs hcs hxs hf hz
  obtain ⟨x, rfl⟩ : ∃ x, xs = [x] := by
    match xs, hxs with
    | [x], _ => exact ⟨x, rfl⟩
  have h0 := hf 0 f rfl
  rw [ho, hs, List.take_of_length_le (by rw [List.length_drop, hcs]; omega)] at h0
  simp only [List.map_cons, List.map_nil, DataW.weightsEach, List.append_nil] at hz
  exact h w n _ x h0 hz
theorem OpensF.cons {c : Rp α} {d : Rp β} {bc : α → Prop} {bd : β → Prop} {f : Field} {fs : List Field} {o : Nat} (ho : f.offset = o) (hs : P.cellsOf f.type = c.sz) (h : Opens enc P c bc f.type) (k : OpensF enc P d bd fs (o + c.sz)) :
    OpensF enc P (c.pair d) (fun x => bc x.1 ∧ bd x.2) (f :: fs) o := by
  intro w n cs xs hcs hxs hf hz
  obtain ⟨x, ys, rfl⟩ : ∃ x ys, xs = x :: ys := by
    match xs, hxs with
    | x :: ys, _ => exact ⟨x, ys, rfl⟩
  have hcs' : cs.length = o + (c.sz + d.sz) := hcs
  have h0 := hf 0 f rfl
  rw [ho, hs] at h0
  simp only [List.map_cons, DataW.weightsEach, List.all_append, Bool.and_eq_true] at hz
  obtain ⟨a, ha1, ha2⟩ := h w n _ x h0 hz.1
  obtain ⟨b, hb1, hb2⟩ := k w n cs ys (by omega) (by simpa using hxs) (fun i g hg => by simpa using hf (i + 1) g (by simpa using hg)) hz.2
  refine ⟨(a, b), ⟨(cs.drop o).take c.sz, cs.drop (o + c.sz), ?_, ha1, hb1⟩, ha2, hb2⟩
  rw [← List.drop_drop, List.take_append_drop]
theorem Opens.struct {d : Rp α} {bd : α → Prop} {t : TypeId} {fs : Array Field} (ht : P.underlying t = some (.struct fs)) (hs : P.cellsOf t = d.sz) (h : OpensF enc P d bd fs.toList 0) : Opens enc P d bd t := by
  intro w fuel cs x hx hz
  obtain ⟨xs, n, rfl, rfl, hl, hxs, hf⟩ := DataW.trod_struct ht hx
  simp only [DataW.weights, ht] at hz
  obtain ⟨a, h1, h2⟩ := h w n cs xs (by omega) (by simpa using hxs) (fun i f hi => hf i f (by simpa using hi)) hz
  exact ⟨a, by simpa using h1, h2⟩
end

/-- the row's wrap: a condition beside (what is laid), the reach, the world's shape -/
theorem handed_all {H : Type} {enc : TypeId × Value → H} {a : Assume} {C : Checked} {os : Os} {f : FuncId} {fn : Func} {s : ChangeSpec} {conds : List PathCond} {apart fresh handsOn again : Bool} {X : World → Array Value → Prop}
    (hX : ∀ (w w' : World) (args : Array Value), w.heap = w'.heap → X w args → X w' args)
    (own : ownKnob C.prog.godebug = none) (started : os.Started) (noInit : C.prog.inits.idxOf? f = none) (hfn : C.prog.funcs[f]? = some fn)
    (witness : ∃ (w : World) (tape : Tape) (i : Input), w.os = os ∧ (w.forCall tape i).Shaped C.prog ∧ i.vars = [] ∧ Input.okWide C.prog (w.forCall tape i) .any w.heap.size f i ∧
      ((s.pre enc C.prog fn conds apart (w.forCall tape i).memory i.args ∧ X (w.forCall tape i).memory i.args) ∧ sizedMet enc C.prog fn (OpenSpec.ofChange s) apart (w.forCall tape i).memory i.args) ∧ a.holds C.prog (lone (Frame.enter C.prog f i.args .normal) [] (w.forCall tape i)))
    (contract : ∀ (W : World) (base : Nat) (args : Array Value) (ds gs : List (DataW H)) (before : List MemPlace),
      (∀ (j : Nat) t v, fn.params[j]? = some t → args[j]? = some v → Value.okWide C.prog W .any base t v) →
      DataW.Whole enc C.prog fn.params.toList s.vars apart W args.toList ds gs before →
      (DataW.weightsEach C.prog (fn.params.toList ++ s.plain.varTypes C.prog) (ds ++ gs)).all (· ≤ reachBytes) = true → X W args →
      W.ShapedOpen C.prog →
      Calls C.prog f args W fun e W' => ∃ v, e = .returned v ∧ s.post enc C.prog fn apart fresh handsOn again W args v W') :
    ReturnsInHanded a C os f .any (fun w args => (s.pre enc C.prog fn conds apart w args ∧ X w args) ∧ sizedMet enc C.prog fn (OpenSpec.ofChange s) apart w args) (s.post enc C.prog fn apart fresh handsOn again) := by
  refine returnsInHanded_of_calls own started noInit witness ?_
  intro w tape i _ hsh _ hok hpre _
  obtain ⟨_, _, _, fn', hfn', _, _, _, _, hval⟩ := hok
  have e : fn' = fn := Option.some.inj (hfn'.symm.trans hfn)
  subst e
  obtain ⟨⟨⟨ds, gs, before, hw, _⟩, hx⟩, hz⟩ := hpre
  have hw' := DataW.Whole.of_heap (w' := w.forCall tape i) (by rfl) hw
  refine (contract (w.forCall tape i) w.heap.size i.args ds gs before hval hw' (hz.weights hw) (hX _ _ _ (by rfl) hx) hsh).mono fun e W' ⟨v, he, hp⟩ => ?_
  subst he
  exact ChangeSpec.post_blind hp

/-- flat cells of a plain datum: for a witness -/
def flatCells : DataW Unit → List Value
  | .lit (.int k n) => [.int k n]
  | .agg ps => flats ps
  | _ => []
where flats : List (DataW Unit) → List Value
  | [] => []
  | p :: ps => flatCells p ++ flats ps
/-- a world in which the listed variables are laid -/
noncomputable def layAll (P : Program) (w : World) : List (String × DataW Unit) → World
  | [] => w
  | (n, d) :: r => layAll P { w with heap := w.heap.modify ((P.globalNamed n).getD 0) fun
      | .cells _ t frozen => .cells (flatCells d).toArray t frozen
      | o => o } r
end Go.Proofs.Ytlfcbhagbdonhaa.Pb
