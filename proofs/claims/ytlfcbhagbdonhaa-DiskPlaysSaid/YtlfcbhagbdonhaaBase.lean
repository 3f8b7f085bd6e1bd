/-
  The ground of this seat's proofs: how bytes, texts, rows and structs lie in memory, and what an operation does to them.
  No condition; nothing here speaks of the program.
-/
import Derived.Below
import Derived.Deep.Draws
import Derived.OwnWalk
import Derived.Tactics
import Derived.WalkKit
import Derived.Lib.ConvBytes
import Derived.Laws.BytesArg
import Derived.Laws.BytesString
import Derived.KernelRfl
import Derived.Lib.Hide
import Derived.Maps.AppendAt
import Derived.Laws.AppendOwnNone
namespace Go.Proofs.Ytlfcbhagbdonhaa.Pb
open Go Go.RowKit

/-! ### bytes and texts -/
def ofL (l : List UInt8) : ByteArray := ⟨l.toArray⟩
def toL (s : ByteArray) : List UInt8 := s.data.toList
theorem ofL_toL (s : ByteArray) : ofL (toL s) = s := rfl
theorem toL_ofL (l : List UInt8) : toL (ofL l) = l := by simp [ofL, toL]
theorem toL_len (s : ByteArray) : (toL s).length = s.size := by show s.data.toList.length = s.data.size; exact Array.length_toList
theorem ofL_size (l : List UInt8) : (ofL l).size = l.length := by simp [ofL, ByteArray.size]
theorem ofL_inj {a b : List UInt8} (h : ofL a = ofL b) : a = b := by
  have := congrArg toL h; rwa [toL_ofL, toL_ofL] at this
theorem toL_inj {a b : ByteArray} (h : toL a = toL b) : a = b := congrArg ofL h
theorem toL_get (s : ByteArray) (k : Nat) (h : k < s.size) : (toL s)[k]'(by rw [toL_len]; exact h) = s[k] := rfl

theorem toList_loop (s : ByteArray) : ∀ (n i : Nat) (r : List UInt8), s.size - i = n → ByteArray.toList.loop s i r = r.reverse ++ s.data.toList.drop i := by
  intro n
  induction n with
  | zero =>
    intro i r h
    rw [ByteArray.toList.loop, if_neg (by omega), List.drop_of_length_le (by show s.data.toList.length ≤ i; rw [Array.length_toList]; show s.size ≤ i; omega)]
    simp
  | succ n ih =>
    intro i r h
    have hi : i < s.data.size := by show i < s.size; omega
    rw [ByteArray.toList.loop, if_pos (by omega), ih (i + 1) _ (by omega)]
    have e : s.data.toList.drop i = s.data[i] :: s.data.toList.drop (i + 1) := by
      rw [List.drop_eq_getElem_cons (by simpa using hi)]; simp
    rw [e, List.reverse_cons, List.append_assoc]
    have e2 : s.get! i = s.data[i] := by
      show s.data[i]! = _
      exact getElem!_pos s.data i hi
    rw [e2]; rfl
/-- the walk's own word for a text's bytes -/
theorem toList_toL (s : ByteArray) : s.toList = toL s := by
  have := toList_loop s s.size 0 [] rfl
  simpa [ByteArray.toList, toL] using this

theorem toList_ofL (l : List UInt8) : (ofL l).toList = l := by rw [toList_toL, toL_ofL]

def u8v (b : UInt8) : Value := .int .u8 b.toNat
theorem u8_rep {X : Int} {b : UInt8} (h : X = (b.toNat : Int)) : [Value.int .u8 X] = [u8v b] := by rw [h]; rfl
theorem u8_lt (b : UInt8) : (b.toNat : Int) < 256 := by have := b.toNat_lt; omega

structure Stopped (p : Prop) : Prop where
  out : p

/-! ### worlds -/
/-- What lies outside F is as it was. -/
structure Keep (F : Nat → Prop) (w w' : World) : Prop where
  os : w'.os = w.os
  tape : w'.tape = w.tape
  output : w'.output = w.output
  size : w.heap.size ≤ w'.heap.size
  block : ∀ k, k < w.heap.size → ¬ F k → w'.heap[k]? = w.heap[k]?

theorem Keep.refl (F : Nat → Prop) (w : World) : Keep F w w := ⟨rfl, rfl, rfl, Nat.le_refl _, fun _ _ _ => rfl⟩
theorem Keep.trans {F G : Nat → Prop} {a b c : World} (h : Keep F a b) (k : Keep G b c) (hG : ∀ i, i < a.heap.size → G i → F i) : Keep F a c :=
  ⟨k.os.trans h.os, k.tape.trans h.tape, k.output.trans h.output, Nat.le_trans h.size k.size,
   fun i hi hF => (k.block i (Nat.lt_of_lt_of_le hi h.size) (fun g => hF (hG i hi g))).trans (h.block i hi hF)⟩
theorem Keep.mono {F G : Nat → Prop} {a b : World} (h : Keep F a b) (hG : ∀ i, i < a.heap.size → F i → G i) : Keep G a b :=
  ⟨h.os, h.tape, h.output, h.size, fun i hi hF => h.block i hi (fun g => hF (hG i hi g))⟩
theorem Keep.below {F : Nat → Prop} {a b : World} (h : Keep F a b) {B : Nat} (hB : B ≤ a.heap.size) (hF : ∀ i, i < B → ¬ F i) : Below B a b :=
  ⟨h.os, h.tape, h.output, h.size, fun i hi => h.block i (by omega) (hF i hi)⟩
theorem Keep.of_below {B : Nat} {a b : World} (h : Below B a b) : Keep (fun k => B ≤ k) a b :=
  ⟨h.os, h.tape, h.output, h.size, fun i _ hF => h.block i (by omega)⟩
theorem Keep.of_grown {a b : World} {row : Option Nat} (h : a.grownBy b row) : Keep (fun k => some k = row) a b :=
  ⟨h.os, h.tape, h.output, h.size, fun i hi hF => h.block i hi hF⟩
theorem Keep.alloc (F : Nat → Prop) (w : World) (o : Obj) : Keep F w (w.alloc o) :=
  ⟨rfl, rfl, rfl, by simp, fun k hk _ => Below.heap_alloc _ _ _ hk⟩
theorem Keep.setCell {F : Nat → Prop} (w : World) {p : Addr} (hp : F p.block) (u : Value) : Keep F w (w.setCell p u) :=
  ⟨rfl, rfl, rfl, by simp [World.setCell], fun _ _ hF => Below.heap_setCell _ _ _ _ (fun e => hF (e ▸ hp))⟩
theorem Keep.set {F : Nat → Prop} {w w' : World} (h : Keep F w w') {p : Addr} (hp : F p.block) (u : Value) : Keep F w (w'.setCell p u) :=
  h.trans (Keep.setCell (F := F) w' hp u) (fun _ _ h => h)
theorem Keep.drew {F : Nat → Prop} {w w' : World} (h : Keep F w w') : Keep F w w'.drew := ⟨h.os, h.tape, h.output, h.size, h.block⟩
theorem Keep.drewN {F : Nat → Prop} {w w' : World} (h : Keep F w w') (n : Nat) : Keep F w (w'.drewN n) := ⟨h.os, h.tape, h.output, h.size, h.block⟩
theorem Keep.new {F : Nat → Prop} {w w' : World} (h : Keep F w w') (o : Obj) : Keep F w (w'.alloc o) := h.trans (Keep.alloc F w' o) (fun _ _ h => h)
theorem size_setCell (w : World) (p : Addr) (u : Value) : (w.setCell p u).heap.size = w.heap.size := by simp [World.setCell]
theorem Keep.cell {F : Nat → Prop} {w w' : World} (h : Keep F w w') {a : Addr} {v : Value} (hc : w.cell? a = some v) (hF : ¬ F a.block) : w'.cell? a = some v :=
  (World.cell?_of_block (w := w) (h.block a.block (World.block_lt_of_cell? w a hc) hF)).trans hc
theorem Keep.blk {F : Nat → Prop} {w w' : World} (h : Keep F w w') {g : Nat} {o : Obj} (hg : w.heap[g]? = some o) (hF : ¬ F g) : w'.heap[g]? = some o :=
  (h.block g (Array.getElem?_eq_some_iff.1 hg).1 hF).trans hg

theorem bcell {W w1 : World} (hb : Below W.heap.size W w1) : (∀ b o, b < W.heap.size → w1.cell? ⟨b, o, none⟩ = W.cell? ⟨b, o, none⟩) ∧ (∀ b o, b < W.heap.size → w1.frozen? ⟨b, o, none⟩ = W.frozen? ⟨b, o, none⟩) :=
  ⟨fun b o h => hb.cell (p := ⟨b, o, none⟩) h, fun b o h => hb.frozen (p := ⟨b, o, none⟩) h⟩

theorem below_then {B : Nat} {w w1 w2 : World} (h : Below B w w1) (hB : B ≤ w.heap.size) (k : Below w1.heap.size w1 w2) : Below B w w2 :=
  h.trans (k.mono (Nat.le_trans hB h.size))

theorem _root_.Go.RowKit.Below.drewN {B : Nat} {w W : World} (h : Below B w W) (n : Nat) : Below B w (W.drewN n) := ⟨h.os, h.tape, h.output, h.size, h.block⟩

theorem blk_lt {w : World} {g : Nat} {o : Obj} (h : w.heap[g]? = some o) : g < w.heap.size := (Array.getElem?_eq_some_iff.1 h).1
theorem blk_cell {w : World} {g : Nat} {t : TypeId} {cs : Array Value} {fz : Nat × Nat} (h : w.heap[g]? = some (.cells cs t fz)) (i : Nat) : w.cell? ⟨g, i, none⟩ = cs[i]? := cell_of_row w g i cs t fz h
theorem blk_free {w : World} {g : Nat} {t : TypeId} {cs : Array Value} (h : w.heap[g]? = some (.cells cs t (0, 0))) (i : Nat) : w.frozen? ⟨g, i, none⟩ = false := by simp [World.frozen?, h]
theorem blk_set {w : World} {g : Nat} {t : TypeId} {cs : Array Value} {fz : Nat × Nat} (h : w.heap[g]? = some (.cells cs t fz)) (i : Nat) (u : Value) : (w.setCell ⟨g, i, none⟩ u).heap[g]? = some (.cells (cs.setIfInBounds i u) t fz) := by
  simp [World.setCell, Array.getElem?_modify, h]
theorem blk_new (w : World) (o : Obj) : (w.alloc o).heap[w.heap.size]? = some o := heap_alloc_new w o

/-- the walk does not see what is to be shown -/
structure Fin (p : Prop) : Prop where
  out : p
theorem calls_gen {P : Program} {f : FuncId} {args : Array Value} {w : World} {Post : Ending → World → Prop} (h : ∀ R : Ending → World → Prop, (∀ e w', Post e w' → Fin (R e w')) → Calls P f args w (fun e w' => Fin (R e w'))) : Calls P f args w Post :=
  (h Post fun _ _ h => ⟨h⟩).mono fun _ _ h => h.out

theorem ret_bool {a b : Bool} (h : a = b) : Ending.returned (.bool a) = .returned (.bool b) := by rw [h]
theorem ret_int {k : IntKind} {a b : Int} (h : a = b) : Ending.returned (.int k a) = .returned (.int k b) := by rw [h]
theorem ret_str {a b : ByteArray} (h : a = b) : Ending.returned (.string a) = .returned (.string b) := by rw [h]

/-! ### rows of cells -/
def At (w : World) (b off : Nat) (cs : List Value) : Prop := ∀ j u, cs[j]? = some u → w.cell? ⟨b, off + j, none⟩ = some u

theorem At.lt {w : World} {b off : Nat} {cs : List Value} (h : At w b off cs) (hne : cs ≠ []) : b < w.heap.size := by
  cases cs with
  | nil => exact absurd rfl hne
  | cons c cs => exact World.block_lt_of_cell? w ⟨b, off + 0, none⟩ (h 0 c rfl)
theorem At.move {w w' : World} {b off : Nat} {cs : List Value} (h : At w b off cs) (hm : w'.heap[b]? = w.heap[b]?) : At w' b off cs :=
  fun j u hu => (World.cell?_of_block (w := w) (w' := w') (a := ⟨b, off + j, none⟩) hm).trans (h j u hu)
theorem At.left {w : World} {b off : Nat} {cs ds : List Value} (h : At w b off (cs ++ ds)) : At w b off cs :=
  fun j u hu => h j u (by
    have hlt : j < cs.length := (List.getElem?_eq_some_iff.1 hu).1
    rw [List.getElem?_append_left hlt]; exact hu)
theorem At.right {w : World} {b off : Nat} {cs ds : List Value} (h : At w b off (cs ++ ds)) : At w b (off + cs.length) ds :=
  fun j u hu => by
    have := h (cs.length + j) u (by rw [List.getElem?_append_right (by omega)]; simpa using hu)
    simpa [Nat.add_assoc] using this

/-! ### elements -/
def Elems {α : Type} (R : α → List Value → Prop) : List α → List Value → Prop
  | [], cs => cs = []
  | x :: xs, cs => ∃ c ds, cs = c ++ ds ∧ R x c ∧ Elems R xs ds

section
variable {α : Type} {R R' : α → List Value → Prop}
theorem Elems.nil : Elems R [] [] := rfl
theorem Elems.app {xs ys : List α} : ∀ {cs ds : List Value}, Elems R xs cs → Elems R ys ds → Elems R (xs ++ ys) (cs ++ ds) := by
  induction xs with
  | nil => intro cs ds h k; cases h; simpa using k
  | cons x xs ih =>
    rintro cs ds ⟨c, es, rfl, hx, h⟩ k
    exact ⟨c, es ++ ds, by simp, hx, ih h k⟩
theorem Elems.one {x : α} {c : List Value} (h : R x c) : Elems R [x] c := ⟨c, [], by simp, h, rfl⟩
theorem Elems.snoc {xs : List α} {x : α} {cs c : List Value} (h : Elems R xs cs) (hx : R x c) : Elems R (xs ++ [x]) (cs ++ c) := h.app (Elems.one hx)
theorem Elems.imp {xs : List α} (hR : ∀ x c, x ∈ xs → R x c → R' x c) : ∀ {cs : List Value}, Elems R xs cs → Elems R' xs cs := by
  induction xs with
  | nil => intro cs h; exact h
  | cons x xs ih =>
    rintro cs ⟨c, ds, rfl, hx, h⟩
    exact ⟨c, ds, rfl, hR _ _ (by simp) hx, ih (fun y d hy => hR y d (by simp [hy])) h⟩
theorem Elems.len {sz : Nat} (hs : ∀ x c, R x c → c.length = sz) {xs : List α} : ∀ {cs : List Value}, Elems R xs cs → cs.length = xs.length * sz := by
  induction xs with
  | nil => intro cs h; cases h; simp
  | cons x xs ih =>
    rintro cs ⟨c, ds, rfl, hx, h⟩
    rw [List.length_append, hs _ _ hx, ih h, List.length_cons, Nat.succ_mul]; omega
theorem Elems.split {xs ys : List α} : ∀ {cs : List Value}, Elems R (xs ++ ys) cs → ∃ as bs, cs = as ++ bs ∧ Elems R xs as ∧ Elems R ys bs := by
  induction xs with
  | nil => intro cs h; exact ⟨[], cs, rfl, rfl, h⟩
  | cons x xs ih =>
    rintro cs ⟨c, ds, rfl, hx, h⟩
    obtain ⟨as, bs, rfl, h1, h2⟩ := ih h
    exact ⟨c ++ as, bs, by simp, ⟨c, as, rfl, hx, h1⟩, h2⟩
theorem Elems.get {sz : Nat} (hs : ∀ x c, R x c → c.length = sz) {xs : List α} {cs : List Value} (h : Elems R xs cs) (i : Nat) (hi : i < xs.length) :
    ∃ as c bs, cs = as ++ c ++ bs ∧ as.length = i * sz ∧ R xs[i] c ∧ Elems R (xs.take i) as ∧ Elems R (xs.drop (i + 1)) bs := by
  have e : xs = xs.take i ++ (xs[i] :: xs.drop (i + 1)) := by rw [List.getElem_cons_drop, List.take_append_drop]
  have h' : Elems R (xs.take i ++ (xs[i] :: xs.drop (i + 1))) cs := e ▸ h
  obtain ⟨as, bs, rfl, h1, c, ds, rfl, hx, h2⟩ := h'.split
  refine ⟨as, c, ds, by simp, ?_, hx, h1, h2⟩
  rw [h1.len hs, List.length_take, Nat.min_eq_left (by omega)]
theorem Elems.mem1 (hs : ∀ x c, R x c → ∀ u ∈ c, u.oneCell' = true) {xs : List α} : ∀ {cs : List Value}, Elems R xs cs → ∀ u ∈ cs, u.oneCell' = true := by
  induction xs with
  | nil => intro cs h; cases h; simp
  | cons x xs ih =>
    rintro cs ⟨c, ds, rfl, hx, h⟩ u hu
    rcases List.mem_append.1 hu with hu | hu
    · exact hs _ _ hx u hu
    · exact ih h u hu
theorem Elems.of_map {enc : α → Value} (xs : List α) : Elems (fun x c => c = [enc x]) xs (xs.map enc) := by
  induction xs with
  | nil => rfl
  | cons x xs ih => exact ⟨[enc x], xs.map enc, rfl, rfl, ih⟩
theorem Elems.to_map {enc : α → Value} {xs : List α} : ∀ {cs : List Value}, Elems (fun x c => c = [enc x]) xs cs → cs = xs.map enc := by
  induction xs with
  | nil => intro cs h; exact h
  | cons x xs ih => rintro cs ⟨c, ds, rfl, rfl, h⟩; rw [ih h]; rfl
end

/-! ### representations -/
/-- How a datum lies in cells: rep w F x cs: the cells cs say x, by memory of the blocks in F alone. -/
structure Rp (α : Type) where
  sz : Nat
  rep : World → (Nat → Prop) → α → List Value → Prop
  len : ∀ {w F x cs}, rep w F x cs → cs.length = sz
  one : ∀ {w F x cs}, rep w F x cs → ∀ u ∈ cs, u.oneCell' = true
  mono : ∀ {w F F' x cs}, (∀ k, F k → F' k) → rep w F x cs → rep w F' x cs
  bnd : ∀ {w F x cs}, rep w F x cs → rep w (fun k => F k ∧ k < w.heap.size) x cs
  step : ∀ {w w' F x cs}, (∀ k, F k → w'.heap[k]? = w.heap[k]?) → rep w F x cs → rep w' F x cs

theorem Rp.move {α : Type} (d : Rp α) {w w' : World} {F : Nat → Prop} {x : α} {cs : List Value} (hm : ∀ k, F k → k < w.heap.size → w'.heap[k]? = w.heap[k]?) (h : d.rep w F x cs) : d.rep w' F x cs :=
  d.mono (fun _ hk => hk.1) (d.step (fun k hk => hm k hk.1 hk.2) (d.bnd h))
theorem Rp.keep {α : Type} (d : Rp α) {w w' : World} {F G : Nat → Prop} {x : α} {cs : List Value} (hk : Keep G w w') (hd : ∀ k, F k → ¬ G k) (h : d.rep w F x cs) : d.rep w' F x cs :=
  d.move (fun k hF hl => hk.block k hl (hd k hF)) h

/-- plain values of one cell -/
def Rp.flat {α : Type} (enc : α → Value) (h1 : ∀ x, (enc x).oneCell' = true) : Rp α where
  sz := 1
  rep := fun _ _ x cs => cs = [enc x]
  len := fun h => by rw [h]; rfl
  one := fun h u hu => by rw [h] at hu; simp at hu; rw [hu]; exact h1 _
  mono := fun _ h => h
  bnd := fun h => h
  step := fun _ h => h

def Rp.u8 : Rp UInt8 := Rp.flat u8v (fun _ => rfl)
def Rp.int : Rp Int := Rp.flat (Value.int .i64) (fun _ => rfl)
def Rp.bool : Rp Bool := Rp.flat Value.bool (fun _ => rfl)
def Rp.str : Rp (List UInt8) := Rp.flat (fun l => Value.string (ofL l)) (fun _ => rfl)

def Rp.pair {α β : Type} (c : Rp α) (d : Rp β) : Rp (α × β) where
  sz := c.sz + d.sz
  rep := fun w F x cs => ∃ as bs, cs = as ++ bs ∧ c.rep w F x.1 as ∧ d.rep w F x.2 bs
  len := fun ⟨as, bs, e, h, k⟩ => by rw [e, List.length_append, c.len h, d.len k]
  one := fun ⟨as, bs, e, h, k⟩ u hu => by
    rw [e] at hu
    rcases List.mem_append.1 hu with hu | hu
    · exact c.one h u hu
    · exact d.one k u hu
  mono := fun hF ⟨as, bs, e, h, k⟩ => ⟨as, bs, e, c.mono hF h, d.mono hF k⟩
  bnd := fun ⟨as, bs, e, h, k⟩ => ⟨as, bs, e, c.bnd h, d.bnd k⟩
  step := fun hm ⟨as, bs, e, h, k⟩ => ⟨as, bs, e, c.step hm h, d.step hm k⟩

def Rp.iso {α β : Type} (d : Rp β) (f : α → β) : Rp α where
  sz := d.sz
  rep := fun w F x cs => d.rep w F (f x) cs
  len := fun h => d.len h
  one := fun h => d.one h
  mono := fun hF h => d.mono hF h
  bnd := fun h => d.bnd h
  step := fun hm h => d.step hm h

section
variable {α : Type}
/-- A slice that is read. -/
def View (d : Rp α) (w : World) (F : Nat → Prop) (xs : List α) (v : Value) : Prop :=
  ∃ A c, v = .slice A xs.length c ∧ xs.length ≤ c ∧ (A = none → c = 0) ∧
    (xs = [] ∨ ∃ b off cells, A = some ⟨b, off, none⟩ ∧ F b ∧ b < w.heap.size ∧ At w b off cells ∧ Elems (d.rep w F) xs cells)

theorem View.mono {d : Rp α} {w : World} {F F' : Nat → Prop} {xs : List α} {v : Value} (hF : ∀ k, F k → F' k) (h : View d w F xs v) : View d w F' xs v := by
  obtain ⟨A, c, e, h1, h2, h3⟩ := h
  refine ⟨A, c, e, h1, h2, h3.imp id ?_⟩
  rintro ⟨b, off, cells, e', hb, hl, ha, he⟩
  exact ⟨b, off, cells, e', hF b hb, hl, ha, he.imp fun _ _ _ h => d.mono hF h⟩
theorem View.bnd {d : Rp α} {w : World} {F : Nat → Prop} {xs : List α} {v : Value} (h : View d w F xs v) : View d w (fun k => F k ∧ k < w.heap.size) xs v := by
  obtain ⟨A, c, e, h1, h2, h3⟩ := h
  refine ⟨A, c, e, h1, h2, h3.imp id ?_⟩
  rintro ⟨b, off, cells, e', hb, hl, ha, he⟩
  exact ⟨b, off, cells, e', ⟨hb, hl⟩, hl, ha, he.imp fun _ _ _ h => d.bnd h⟩
theorem View.step {d : Rp α} {w w' : World} {F : Nat → Prop} {xs : List α} {v : Value} (hm : ∀ k, F k → w'.heap[k]? = w.heap[k]?) (h : View d w F xs v) : View d w' F xs v := by
  obtain ⟨A, c, e, h1, h2, h3⟩ := h
  refine ⟨A, c, e, h1, h2, h3.imp id ?_⟩
  rintro ⟨b, off, cells, e', hb, hl, ha, he⟩
  refine ⟨b, off, cells, e', hb, ?_, ha.move (hm b hb), he.imp fun _ _ _ h => d.step hm h⟩
  have := hm b hb
  rw [Array.getElem?_eq_getElem hl] at this
  exact (Array.getElem?_eq_some_iff.1 this).1
theorem View.move {d : Rp α} {w w' : World} {F : Nat → Prop} {xs : List α} {v : Value} (hm : ∀ k, F k → k < w.heap.size → w'.heap[k]? = w.heap[k]?) (h : View d w F xs v) : View d w' F xs v :=
  (h.bnd.step (fun k hk => hm k hk.1 hk.2)).mono fun _ hk => hk.1
theorem View.keep {d : Rp α} {w w' : World} {F G : Nat → Prop} {xs : List α} {v : Value} (hk : Keep G w w') (hd : ∀ k, F k → ¬ G k) (h : View d w F xs v) : View d w' F xs v :=
  h.move fun k hF hl => hk.block k hl (hd k hF)
theorem View.below {d : Rp α} {w w' : World} {F : Nat → Prop} {xs : List α} {v : Value} (hb : Below w.heap.size w w') (h : View d w F xs v) : View d w' F xs v :=
  h.move fun k _ hl => hb.block k hl
theorem View.nil (d : Rp α) (w : World) (F : Nat → Prop) : View d w F [] (.slice none 0 0) := ⟨none, 0, rfl, Nat.le_refl _, fun _ => rfl, .inl rfl⟩

theorem View.open1 {enc : α → Value} {h1 : ∀ x, (enc x).oneCell' = true} {w : World} {F : Nat → Prop} {xs : List α} {v : Value} (h : View (Rp.flat enc h1) w F xs v) :
    ∃ A c, v = .slice A xs.length c ∧ xs.length ≤ c ∧ (∀ i, i < xs.length → ∃ b off, A = some ⟨b, off, none⟩ ∧ b < w.heap.size ∧ ∀ j x, xs[j]? = some x → w.cell? ⟨b, off + j, none⟩ = some (enc x)) := by
  obtain ⟨A, c, e, hc, hA, h⟩ := h
  refine ⟨A, c, e, hc, fun i hi => ?_⟩
  rcases h with rfl | ⟨b, off, cells, rfl, hb, hl, hat, hel⟩
  · simp at hi
  · refine ⟨b, off, rfl, hl, fun j x hj => hat j _ ?_⟩
    obtain rfl := hel.to_map
    simp [hj]

/-- a slice as a part of a struct (one that is read) -/
def Rp.view (d : Rp α) : Rp (List α) where
  sz := 1
  rep := fun w F xs cs => ∃ v, cs = [v] ∧ View d w F xs v
  len := fun ⟨v, e, _⟩ => by rw [e]; rfl
  one := fun ⟨v, e, A, c, e', _⟩ u hu => by rw [e] at hu; simp at hu; rw [hu, e']; rfl
  mono := fun hF ⟨v, e, h⟩ => ⟨v, e, h.mono hF⟩
  bnd := fun ⟨v, e, h⟩ => ⟨v, e, h.bnd⟩
  step := fun hm ⟨v, e, h⟩ => ⟨v, e, h.step hm⟩

/-- A slice that owns its row, from the row's head on. -/
def Own (d : Rp α) (e : TypeId) (w : World) (F : Nat → Prop) (xs : List α) (v : Value) : Prop :=
  ∃ cells, w.ownsRow 0 e d.sz v xs.length cells ∧ (∀ k, v.ownBlock = some k → F k) ∧ Elems (d.rep w (fun k => F k ∧ some k ≠ v.ownBlock)) xs cells

theorem own_move {w w1 : World} {base : Nat} {e : TypeId} {size n : Nat} {v : Value} {xs : List Value} (h : w.ownsRow base e size v n xs) (hm : ∀ k, v.ownBlock = some k → w1.heap[k]? = w.heap[k]?) : w1.ownsRow base e size v n xs := by
  obtain ⟨h1, h2⟩ := h
  refine ⟨h1, ?_⟩
  rcases h2 with h2 | ⟨g, cap, cur, rfl, hg, hh, r⟩
  · exact .inl h2
  · exact .inr ⟨g, cap, cur, rfl, hg, (hm g (by simp [Value.ownBlock])).trans hh, r⟩

theorem Own.nil (d : Rp α) (e : TypeId) (w : World) (F : Nat → Prop) : Own d e w F [] (.slice none 0 0) :=
  ⟨[], World.ownsRow_nil _ _ _ _, fun k hk => by simp [Value.ownBlock] at hk, rfl⟩
theorem Own.mono {d : Rp α} {e : TypeId} {w : World} {F F' : Nat → Prop} {xs : List α} {v : Value} (hF : ∀ k, F k → F' k) (h : Own d e w F xs v) : Own d e w F' xs v := by
  obtain ⟨cells, h1, h2, h3⟩ := h
  exact ⟨cells, h1, fun k hk => hF k (h2 k hk), h3.imp fun _ _ _ h => d.mono (fun k hk => ⟨hF k hk.1, hk.2⟩) h⟩
theorem Own.bnd {d : Rp α} {e : TypeId} {w : World} {F : Nat → Prop} {xs : List α} {v : Value} (h : Own d e w F xs v) : Own d e w (fun k => F k ∧ k < w.heap.size) xs v := by
  obtain ⟨cells, h1, h2, h3⟩ := h
  exact ⟨cells, h1, fun k hk => ⟨h2 k hk, (h1.lt k hk).2⟩, h3.imp fun _ _ _ h => d.mono (fun k hk => ⟨⟨hk.1.1, hk.2⟩, hk.1.2⟩) (d.bnd h)⟩
theorem Own.step {d : Rp α} {e : TypeId} {w w' : World} {F : Nat → Prop} {xs : List α} {v : Value} (hm : ∀ k, F k → w'.heap[k]? = w.heap[k]?) (h : Own d e w F xs v) : Own d e w' F xs v := by
  obtain ⟨cells, h1, h2, h3⟩ := h
  exact ⟨cells, own_move h1 (fun k hk => hm k (h2 k hk)), h2, h3.imp fun _ _ _ h => d.step (fun k hk => hm k hk.1) h⟩
theorem Own.move {d : Rp α} {e : TypeId} {w w' : World} {F : Nat → Prop} {xs : List α} {v : Value} (hm : ∀ k, F k → k < w.heap.size → w'.heap[k]? = w.heap[k]?) (h : Own d e w F xs v) : Own d e w' F xs v :=
  (h.bnd.step (fun k hk => hm k hk.1 hk.2)).mono fun _ hk => hk.1
theorem Own.keep {d : Rp α} {e : TypeId} {w w' : World} {F G : Nat → Prop} {xs : List α} {v : Value} (hk : Keep G w w') (hd : ∀ k, F k → ¬ G k) (h : Own d e w F xs v) : Own d e w' F xs v :=
  h.move fun k hF hl => hk.block k hl (hd k hF)
theorem Own.below {d : Rp α} {e : TypeId} {w w' : World} {F : Nat → Prop} {xs : List α} {v : Value} (hb : Below w.heap.size w w') (h : Own d e w F xs v) : Own d e w' F xs v :=
  h.move fun k _ hl => hb.block k hl
theorem Own.alloc {d : Rp α} {e : TypeId} {w : World} {F : Nat → Prop} {xs : List α} {v : Value} (h : Own d e w F xs v) (o : Obj) : Own d e (w.alloc o) F xs v :=
  h.move fun _ _ hl => Below.heap_alloc _ _ _ hl
theorem Own.slice {d : Rp α} {e : TypeId} {w : World} {F : Nat → Prop} {xs : List α} {v : Value} (h : Own d e w F xs v) : ∃ A c, v = .slice A xs.length c ∧ xs.length ≤ c := by
  obtain ⟨cells, ⟨_, h1⟩, _⟩ := h
  rcases h1 with ⟨rfl, e⟩ | ⟨g, cap, cur, rfl, _, _, hc, _⟩
  · exact ⟨none, 0, by rw [e], by omega⟩
  · exact ⟨_, cap, rfl, hc⟩

theorem add_plain (g j : Nat) : (⟨g, 0, none⟩ : Addr).add j = ⟨g, j, none⟩ := by unfold Addr.add; split <;> simp_all
theorem add_off (g o j : Nat) : (⟨g, o, none⟩ : Addr).add j = ⟨g, o + j, none⟩ := by unfold Addr.add; split <;> simp_all

theorem Own.view {d : Rp α} {e : TypeId} {w : World} {F : Nat → Prop} {xs : List α} {v : Value} (h : Own d e w F xs v) : View d w F xs v := by
  obtain ⟨cells, h1, h2, h3⟩ := h
  have hh := h1
  rcases h1 with ⟨hl, ⟨rfl, e0⟩ | ⟨g, cap, cur, rfl, _, hg, hc, _⟩⟩
  · obtain rfl : xs = [] := List.eq_nil_of_length_eq_zero e0
    exact View.nil _ _ _
  · refine ⟨_, cap, rfl, hc, by simp, ?_⟩
    by_cases hx : xs = []
    · exact .inl hx
    · refine .inr ⟨g, 0, cells, rfl, h2 g rfl, blk_lt hg, fun j u hu => ?_, h3.imp fun _ _ _ h => d.mono (fun _ hk => hk.1) h⟩
      have := hh.cells (g := g) rfl j u hu
      rw [add_plain] at this
      rwa [Nat.zero_add]

/-- a slice as a part of a struct (one that owns its row) -/
def Rp.own (d : Rp α) (e : TypeId) : Rp (List α) where
  sz := 1
  rep := fun w F xs cs => ∃ v, cs = [v] ∧ Own d e w F xs v
  len := fun ⟨v, e, _⟩ => by rw [e]; rfl
  one := fun ⟨v, e, h⟩ u hu => by
    obtain ⟨A, c, e', _⟩ := h.slice
    rw [e] at hu; simp at hu; rw [hu, e']; rfl
  mono := fun hF ⟨v, e, h⟩ => ⟨v, e, h.mono hF⟩
  bnd := fun ⟨v, e, h⟩ => ⟨v, e, h.bnd⟩
  step := fun hm ⟨v, e, h⟩ => ⟨v, e, h.step hm⟩
end

section
variable {α : Type}
theorem Own.lit {d : Rp α} {e : TypeId} (w : World) {G : Nat → Prop} {xs : List α} {cs : List Value} (h : Elems (d.rep w G) xs cs) {n : Nat} (hn : n = xs.length) (hm : xs.length ≤ maxLen) :
    Own d e (w.alloc (.cells cs.toArray e)) (fun k => G k ∨ w.heap.size ≤ k) xs (.slice (some ⟨w.heap.size, 0, none⟩) n n) := by
  subst hn
  have hl := h.len fun _ _ h => d.len h
  refine ⟨cs, ⟨hl, .inr ⟨w.heap.size, xs.length, cs.toArray, rfl, Nat.zero_le _, heap_alloc_new w _, Nat.le_refl _, hm, by simpa using hl, by rw [← hl]; simp⟩⟩, fun k hk => ?_, ?_⟩
  · simp [Value.ownBlock] at hk; exact .inr (by omega)
  · refine h.imp fun x c _ hx => d.mono (fun k hk => ⟨.inl hk.1, ?_⟩) (d.step (w' := w.alloc (.cells cs.toArray e)) (fun k hk => Below.heap_alloc _ _ _ hk.2) (d.bnd hx))
    intro e'; simp [Value.ownBlock] at e'; omega
end

/-! ### append -/
section
variable {P : Program} {α : Type}
/-- append(v, y...): y a row of cells at an address -/
theorem run_append_rows {d : Rp α} {w : World} {F G : Nat → Prop} {xs ys : List α} {v : Value} {t ty e : TypeId} {z : Value} {bytes : Nat}
    (ht : P.underlying t = some (.slice e)) (hinfo : (P.info? e).map (fun i => (i.zero, i.size, i.bytes)) = some (some z, d.sz, bytes)) (hzs : z.cells.size = d.sz) (hsz : 0 < d.sz)
    (hown : Own d e w F xs v) {b off c : Nat} {news : List Value} (hat : At w b off news) (hy : Elems (d.rep w G) ys news) (hG : ∀ k, G k → some k ≠ v.ownBlock)
    (h63 : xs.length + ys.length ≤ maxLen) (hbytes : (xs.length + ys.length) * bytes ≤ 140737488355328) :
    ∃ v' w', (Builtin.append_ #[t, t] ty #[v, .slice (some ⟨b, off, none⟩) ys.length c]).run P w = .ok v' w' ∧
      Own d e w' (fun k => F k ∨ G k ∨ w.heap.size ≤ k) (xs ++ ys) v' ∧ Keep (fun k => some k = v.ownBlock) w w' ∧ (v' = .slice none 0 0 ↔ v = .slice none 0 0 ∧ ys.length = 0) ∧
      (v'.ownBlock = v.ownBlock ∨ ∃ k, v'.ownBlock = some k ∧ w.heap.size ≤ k) := by
  obtain ⟨i0, hi, hz0, hz1, hz2⟩ := info_parts hinfo
  obtain ⟨cells, h1, h2, h3⟩ := hown
  have hl : news.length = ys.length * d.sz := hy.len fun _ _ h => d.len h
  -- in a world of its own base: the new row is the old one, or a new block
  have h1' : w.ownsRow 0 e d.sz v xs.length cells := h1
  have key : ∃ v' w', (Builtin.append_ #[t, t] ty #[v, .slice (some ⟨b, off, none⟩) ys.length c]).run P w = .ok v' w' ∧ w'.ownsRow 0 e d.sz v' (xs.length + ys.length) (cells ++ news) ∧ w.grownBy w' v.ownBlock ∧
      (v' = .slice none 0 0 ↔ v = .slice none 0 0 ∧ ys.length = 0) ∧ (v'.ownBlock = v.ownBlock ∨ ∃ k, v'.ownBlock = some k ∧ w.heap.size ≤ k) := by
    obtain ⟨v', w', a1, a2, a3, a4, a5⟩ := Go.run_append_own_at (P := P) w 0 t ty e i0 z d.sz bytes ht hi hz0 hz1 hz2 hzs hsz v xs.length cells h1' ⟨b, off, none⟩ ys.length c news hl (fun j u hu => by rw [add_off]; exact hat j u hu) (hy.mem1 fun _ _ h => d.one h) h63 hbytes (Nat.zero_le _)
    exact ⟨v', w', a1, a2, a3, a4, a5.imp id fun e => ⟨_, e, Nat.le_refl _⟩⟩
  obtain ⟨v', w', hr, ho, hg, hn, hb⟩ := key
  refine ⟨v', w', hr, ⟨cells ++ news, by simpa using ho, ?_, ?_⟩, Keep.of_grown hg, hn, hb⟩
  · intro k hk
    rcases hb with hb | ⟨j, hj, hle⟩
    · exact .inl (h2 k (hb ▸ hk))
    · rw [hj] at hk; cases hk; exact .inr (.inr hle)
  · have hnew : ∀ k, k < w.heap.size → some k ≠ v.ownBlock → some k ≠ v'.ownBlock := by
      intro k hk hne e'
      rcases hb with hb | ⟨j, hj, hle⟩
      · exact hne (hb ▸ e')
      · rw [hj] at e'; cases e'; omega
    refine Elems.app (h3.imp fun x cs _ h => ?_) (hy.imp fun x cs _ h => ?_)
    · have h' := d.step (w' := w') (fun k hk => hg.block k hk.2 hk.1.2) (d.bnd h)
      exact d.mono (fun k hk => ⟨.inl hk.1.1, hnew k hk.2 hk.1.2⟩) h'
    · have h' := d.step (w' := w') (fun k hk => hg.block k hk.2 (hG k hk.1)) (d.bnd h)
      exact d.mono (fun k hk => ⟨.inr (.inl hk.1), hnew k hk.2 (hG k hk.1)⟩) h'


theorem run_append_none {d : Rp α} {w : World} {F : Nat → Prop} {xs : List α} {v : Value} {t ty e : TypeId} {z : Value} {bytes : Nat}
    (ht : P.underlying t = some (.slice e)) (hinfo : (P.info? e).map (fun i => (i.zero, i.size, i.bytes)) = some (some z, d.sz, bytes))
    (hown : Own d e w F xs v) (c : Nat) : (Builtin.append_ #[t, t] ty #[v, .slice none 0 c]).run P w = .ok v w := by
  obtain ⟨i0, hi, hz0, hz1, hz2⟩ := info_parts hinfo
  obtain ⟨A, cap, rfl, hc⟩ := hown.slice
  cases A with
  | none => simp [Builtin.append_, run_underlying ht, sizeOf, typeInfo, hi, Builtin.lenOf, hc, Builtin.firstCells]
  | some a => simp [Builtin.append_, run_underlying ht, sizeOf, typeInfo, hi, Builtin.lenOf, hc, Builtin.firstCells, storeCells]

/-- append(v, y...), y whatever slice that is read -/
theorem run_append_view {d : Rp α} {w : World} {F G : Nat → Prop} {xs ys : List α} {v y : Value} {t ty e : TypeId} {z : Value} {bytes : Nat}
    (ht : P.underlying t = some (.slice e)) (hinfo : (P.info? e).map (fun i => (i.zero, i.size, i.bytes)) = some (some z, d.sz, bytes)) (hzs : z.cells.size = d.sz) (hsz : 0 < d.sz)
    (hown : Own d e w F xs v) (hy : View d w G ys y) (hG : ∀ k, G k → some k ≠ v.ownBlock)
    (h63 : xs.length + ys.length ≤ maxLen) (hbytes : (xs.length + ys.length) * bytes ≤ 140737488355328) :
    ∃ v' w', (Builtin.append_ #[t, t] ty #[v, y]).run P w = .ok v' w' ∧
      Own d e w' (fun k => F k ∨ G k ∨ w.heap.size ≤ k) (xs ++ ys) v' ∧ Keep (fun k => some k = v.ownBlock) w w' ∧ (v' = .slice none 0 0 ↔ v = .slice none 0 0 ∧ ys.length = 0) ∧
      (v'.ownBlock = v.ownBlock ∨ ∃ k, v'.ownBlock = some k ∧ w.heap.size ≤ k) := by
  obtain ⟨A, c, rfl, hc, hA, h⟩ := hy
  rcases h with rfl | ⟨b, off, cells, rfl, hb, hl, hat, he⟩
  · refine ⟨v, w, ?_, by simpa using hown.mono fun _ h => .inl h, Keep.refl _ _, by simp, .inl rfl⟩
    obtain ⟨i0, hi, hz0, hz1, hz2⟩ := info_parts hinfo
    obtain ⟨A', cap, rfl, hc'⟩ := hown.slice
    cases A <;> cases A' <;> simp [Builtin.append_, run_underlying ht, sizeOf, typeInfo, hi, Builtin.lenOf, hc', Builtin.firstCells, storeCells, loadCells, loadCellsFrom]
  · exact run_append_rows ht hinfo hzs hsz hown hat he hG h63 hbytes
end

/-! ### steps of a walk -/
section
variable {P : Program} {ops : Array Oper} {rest : List Oper} {d : Option Tmp} {ty : TypeId} {pos : String} {af : Array Edge} {a : Act} {Q : Exit → Act → World → Prop} {w w' : World} {v : Value}
theorem wp_val {op : Op} (h : (execOp a.eval ⟨d, op, ty, pos, af, none⟩).run P w = .ok (.value v) w') (k : wpList P ops Q rest (a.put d v) w') :
    wpList P ops Q (⟨d, op, ty, pos, af, none⟩ :: rest) a w :=
  wpList_plain rfl fun K hK => by
    unfold Oper.wp
    rw [h]
    exact hK _ _ k
theorem exec_builtin {b : Builtin} {args : Array Operand} {ts : Array TypeId} (h : (builtin b ts ty (args.map fun | .const _ => true | _ => false) (args.map a.eval)).run P w = .ok (.value v) w') :
    (execOp a.eval ⟨d, .call ⟨.builtin b, args, ts⟩, ty, pos, af, none⟩).run P w = .ok (.value v) w' := by
  simp only [execOp, resolve, invoke, Sem.run_bind, Sem.run_pure, Result.andThen_ok]
  exact h
theorem exec_append {args : Array Operand} {ts : Array TypeId} (h : (Builtin.append_ ts ty (args.map a.eval)).run P w = .ok v w') :
    (execOp a.eval ⟨d, .call ⟨.builtin .append, args, ts⟩, ty, pos, af, none⟩).run P w = .ok (.value v) w' :=
  exec_builtin (by simp only [builtin, Sem.run_bind, h, Result.andThen_ok, Sem.run_pure])
theorem exec_convert {s t : TypeId} {x : Operand} (h : (convert s t (a.eval x)).run P w = .ok v w') :
    (execOp a.eval ⟨d, .convert s t x, ty, pos, af, none⟩).run P w = .ok (.value v) w' := by
  simp only [execOp, Sem.run_bind, h, Result.andThen_ok, Sem.run_pure]

theorem stop_append {args : Array Operand} {ts : Array TypeId} (h : Stopped (wpList P ops Q (⟨d, .call ⟨.builtin .append, args, ts⟩, ty, pos, af, none⟩ :: rest) a w)) :
    wpList P ops Q (⟨d, .call ⟨.builtin .append, args, ts⟩, ty, pos, af, none⟩ :: rest) a w := h.out
theorem stop_convert {s t : TypeId} {x : Operand} (h : Stopped (wpList P ops Q (⟨d, .convert s t x, ty, pos, af, none⟩ :: rest) a w)) :
    wpList P ops Q (⟨d, .convert s t x, ty, pos, af, none⟩ :: rest) a w := h.out
theorem stop_load {t : TypeId} {x : Operand} (h : Stopped (wpList P ops Q (⟨d, .load t x, ty, pos, af, none⟩ :: rest) a w)) :
    wpList P ops Q (⟨d, .load t x, ty, pos, af, none⟩ :: rest) a w := h.out
theorem stop_store {t : TypeId} {x y : Operand} (h : Stopped (wpList P ops Q (⟨d, .store t x y, ty, pos, af, none⟩ :: rest) a w)) :
    wpList P ops Q (⟨d, .store t x y, ty, pos, af, none⟩ :: rest) a w := h.out
theorem stop_indexAddr {t : TypeId} {x y : Operand} (h : Stopped (wpList P ops Q (⟨d, .indexAddr t x y, ty, pos, af, none⟩ :: rest) a w)) :
    wpList P ops Q (⟨d, .indexAddr t x y, ty, pos, af, none⟩ :: rest) a w := h.out
theorem stop_slice {t : TypeId} {x : Operand} {l h' m : Option Operand} (h : Stopped (wpList P ops Q (⟨d, .slice t x l h' m, ty, pos, af, none⟩ :: rest) a w)) :
    wpList P ops Q (⟨d, .slice t x l h' m, ty, pos, af, none⟩ :: rest) a w := h.out
theorem stop_make {t : TypeId} {x y : Operand} (h : Stopped (wpList P ops Q (⟨d, .makeSlice t x y, ty, pos, af, none⟩ :: rest) a w)) :
    wpList P ops Q (⟨d, .makeSlice t x y, ty, pos, af, none⟩ :: rest) a w := h.out

/-- out = append(out, x), x of one cell -/
theorem wp_append1 {α : Type} {r : Rp α} {F : Nat → Prop} {xs : List α} {s x : Operand} {t e : TypeId} {z : Value} {bytes : Nat} {y : α}
    (ht : P.underlying t = some (.slice e)) (hinfo : (P.info? e).map (fun i => (i.zero, i.size, i.bytes)) = some (some z, r.sz, bytes)) (hzs : z.cells.size = r.sz) (hsz : 0 < r.sz)
    (hown : Own r e w F xs v) (hs : a.eval s = v) {cs : Array Value} (hx : a.eval x = .slice (some ⟨w.heap.size, 0, none⟩) 1 1) {G : Nat → Prop} (hy : r.rep w G y cs.toList) (hG : ∀ k, G k → some k ≠ v.ownBlock)
    (h63 : xs.length < 1099511627776) (hb : bytes ≤ 100)
    (h : ∀ v' w', Own r e w' (fun k => F k ∨ G k ∨ w.heap.size ≤ k) (xs ++ [y]) v' → Keep (fun k => some k = v.ownBlock) w w' → v' ≠ .slice none 0 0 → (v'.ownBlock = v.ownBlock ∨ ∃ k, v'.ownBlock = some k ∧ w.heap.size ≤ k) → wpList P ops Q rest (a.put d v') w') :
    wpList P ops Q (⟨d, .call ⟨.builtin .append, #[s, x], #[t, t]⟩, ty, pos, af, none⟩ :: rest) a (w.alloc (.cells cs e)) := by
  have hown' := hown.alloc (.cells cs e)
  have hy' : r.rep (w.alloc (.cells cs e)) (fun k => G k ∧ k < w.heap.size) y cs.toList := r.step (fun k hk => Below.heap_alloc _ _ _ hk.2) (r.bnd hy)
  have hat : At (w.alloc (.cells cs e)) w.heap.size 0 cs.toList := fun j u hu => by
    rw [blk_cell (blk_new w _)]; simpa using hu
  have hmul : (xs.length + [y].length) * bytes ≤ 140737488355328 := by
    have : (xs.length + 1) * bytes ≤ 1099511627776 * 100 := Nat.mul_le_mul (by omega) hb
    simp only [List.length_cons, List.length_nil, Nat.zero_add]; omega
  obtain ⟨v', w', hr, ho, hk, hn, hb'⟩ := run_append_rows (ty := ty) (c := 1) ht hinfo hzs hsz hown' hat (Elems.one hy') (fun k hk => hG k hk.1) (by simp only [List.length_cons, List.length_nil]; unfold maxLen; omega) hmul
  refine wp_val (exec_append (v := v') (w' := w') ?_) (h v' w' (ho.mono ?_) ⟨hk.os, hk.tape, hk.output, ?_, ?_⟩ ?_ ?_)
  · simpa [hs, hx] using hr
  · intro k hk'
    rcases hk' with h1 | h1 | h1
    · exact .inl h1
    · exact .inr (.inl h1.1)
    · exact .inr (.inr (by simp at h1; omega))
  · have := hk.size; simp at this; omega
  · intro k hk' hne
    exact (hk.block k (by simp; omega) hne).trans (Below.heap_alloc _ _ _ hk')
  · intro e'; rw [hn] at e'; simp at e'
  · rcases hb' with h1 | ⟨k, h1, h2⟩
    · exact .inl h1
    · exact .inr ⟨k, h1, by simp at h2; omega⟩

/-- out = append(out, x): out lies from block B on; x is a value of one cell that leads nowhere -/
theorem wp_append1_flat {α : Type} {enc : α → Value} {h1 : ∀ x, (enc x).oneCell' = true} {B : Nat} {xs : List α} {s x : Operand} {t e : TypeId} {z : Value} {bytes : Nat} {y : α}
    (ht : P.underlying t = some (.slice e)) (hinfo : (P.info? e).map (fun i => (i.zero, i.size, i.bytes)) = some (some z, 1, bytes)) (hzs : z.cells.size = 1)
    (hown : Own (Rp.flat enc h1) e w (B ≤ ·) xs v) (hs : a.eval s = v) {cs : Array Value} (hx : a.eval x = .slice (some ⟨w.heap.size, 0, none⟩) 1 1) (hy : cs.toList = [enc y])
    (h63 : xs.length < 1099511627776) (hb : bytes ≤ 100) (hB : B ≤ w.heap.size)
    (h : ∀ v' w', Own (Rp.flat enc h1) e w' (B ≤ ·) (xs ++ [y]) v' → Below B w w' → B ≤ w'.heap.size → v' ≠ .slice none 0 0 → wpList P ops Q rest (a.put d v') w') :
    wpList P ops Q (⟨d, .call ⟨.builtin .append, #[s, x], #[t, t]⟩, ty, pos, af, none⟩ :: rest) a (w.alloc (.cells cs e)) := by
  have hv : ∀ k, v.ownBlock = some k → B ≤ k := by
    obtain ⟨cells, _, h2, _⟩ := hown
    exact h2
  refine wp_append1 (r := Rp.flat enc h1) (F := (B ≤ ·)) (G := fun _ => False) (y := y) ht hinfo hzs (show 0 < 1 by decide) hown hs hx hy (fun _ h => h.elim) h63 hb fun v' w' ho hk hne _ => ?_
  refine h v' w' (ho.mono fun k hk' => ?_) (hk.below hB fun i hi e' => ?_) (Nat.le_trans hB hk.size) hne
  · rcases hk' with h | h | h
    · exact h
    · exact h.elim
    · exact Nat.le_trans hB h
  · have := hv i e'.symm; omega

/-- string(b) -/
theorem run_string {F : Nat → Prop} {l : List UInt8} {src dst e : TypeId} (hs : P.underlying src = some (.slice e)) (he : P.underlying e = some (.int .u8)) (hd : P.underlying dst = some .string)
    (h : View Rp.u8 w F l v) : (convert src dst v).run P w = .ok (.string (ofL l)) w := by
  obtain ⟨A, c, rfl, hc, hA, h⟩ := h
  have hl : ∀ xs : List Int, xs = l.map (fun b => (b.toNat : Int)) → strOfNums xs = ofL l := by
    rintro xs rfl
    apply toL_inj
    show (strOfNums _).data.toList = _
    rw [strOfNums_data, List.map_map, toL_ofL]
    conv => rhs; rw [← List.map_id l]
    refine List.map_congr_left fun b _ => ?_
    simp
  rcases h with rfl | ⟨b, off, cells, rfl, hb, hlt, hat, hel⟩
  · cases A with
    | none => exact run_convert_bytes_nil w src e hs he _ _ dst hd
    | some ad =>
      have := run_bytesToString (P := P) w ad 0 c [] (by simp [loadCells, loadCellsFrom])
      show (convert src dst (Value.slice (some ad) 0 c)).run P w = _
      rw [run_convert_bytes_string w src dst e (some ad) 0 c hs he hd]
      exact this
  · obtain rfl := hel.to_map
    rw [← hl _ rfl]
    refine run_convert_bytes_arg w src e hs he b off l.length c (l.map fun b => (b.toNat : Int)) (by simp) (fun i hi => ?_) dst hd
    have := hat i (u8v l[i]) (by simp [hi])
    rw [this]; simp [u8v, hi]
theorem wp_string {F : Nat → Prop} {l : List UInt8} {src dst e : TypeId} {x : Operand} (hs : P.underlying src = some (.slice e)) (he : P.underlying e = some (.int .u8)) (hd : P.underlying dst = some .string)
    (hv : View Rp.u8 w F l (a.eval x)) (k : wpList P ops Q rest (a.put d (.string (ofL l))) w) :
    wpList P ops Q (⟨d, .convert src dst x, ty, pos, af, none⟩ :: rest) a w :=
  wp_val (exec_convert (run_string hs he hd hv)) k
end


/-! ### a row that is written in place -/
def RowAt (w : World) (g : Nat) (e : TypeId) (fz : Nat × Nat) (cs : List Value) : Prop := ∃ cur : Array Value, w.heap[g]? = some (.cells cur e fz) ∧ cur.toList.take cs.length = cs
theorem RowAt.len {w : World} {g : Nat} {e : TypeId} {fz : Nat × Nat} {cs : List Value} (h : RowAt w g e fz cs) : g < w.heap.size := by
  obtain ⟨cur, h, _⟩ := h; exact blk_lt h
theorem RowAt.cell {w : World} {g : Nat} {e : TypeId} {fz : Nat × Nat} {cs : List Value} (h : RowAt w g e fz cs) {i : Nat} {u : Value} (hi : cs[i]? = some u) : w.cell? ⟨g, i, none⟩ = some u := by
  obtain ⟨cur, h, ht⟩ := h
  rw [blk_cell h]
  have hlt := (List.getElem?_eq_some_iff.1 hi).1
  rw [← ht, List.getElem?_take, if_pos hlt] at hi
  simpa using hi
theorem RowAt.free {w : World} {g : Nat} {e : TypeId} {fz : Nat × Nat} {cs : List Value} (h : RowAt w g e fz cs) {i : Nat} (hi : i < fz.1 ∨ fz.2 ≤ i) : w.frozen? ⟨g, i, none⟩ = false := by
  obtain ⟨cur, h, ht⟩ := h
  simp [World.frozen?, h]; omega
theorem RowAt.set {w : World} {g : Nat} {e : TypeId} {fz : Nat × Nat} {cs : List Value} (h : RowAt w g e fz cs) (i : Nat) (u : Value) : RowAt (w.setCell ⟨g, i, none⟩ u) g e fz (cs.set i u) := by
  obtain ⟨cur, h, ht⟩ := h
  refine ⟨_, blk_set h i u, ?_⟩
  rw [Array.toList_setIfInBounds, List.length_set, List.take_set, ht]
theorem RowAt.move {w w' : World} {g : Nat} {e : TypeId} {fz : Nat × Nat} {cs : List Value} (h : RowAt w g e fz cs) (hm : w'.heap[g]? = w.heap[g]?) : RowAt w' g e fz cs := by
  obtain ⟨cur, h, ht⟩ := h
  exact ⟨cur, hm.trans h, ht⟩
theorem RowAt.view {α : Type} {enc : α → Value} {h1 : ∀ x, (enc x).oneCell' = true} {w : World} {g : Nat} {e : TypeId} {fz : Nat × Nat} {xs : List α} {c : Nat} (h : RowAt w g e fz (xs.map enc)) (hc : xs.length ≤ c) {F : Nat → Prop} (hF : F g) : View (Rp.flat enc h1) w F xs (.slice (some ⟨g, 0, none⟩) xs.length c) := by
  refine ⟨_, c, rfl, hc, by simp, .inr ⟨g, 0, xs.map enc, rfl, hF, h.len, fun j u hu => ?_, Elems.of_map xs⟩⟩
  rw [Nat.zero_add]; exact h.cell hu

theorem Own.row {α : Type} {enc : α → Value} {h1 : ∀ x, (enc x).oneCell' = true} {e : TypeId} {w : World} {F : Nat → Prop} {xs : List α} {v : Value} (h : Own (Rp.flat enc h1) e w F xs v) (hne : xs ≠ []) :
    ∃ g c, v = .slice (some ⟨g, 0, none⟩) xs.length c ∧ F g ∧ xs.length ≤ c ∧ RowAt w g e (0, 0) (xs.map enc) := by
  obtain ⟨cells, ⟨hl, ho⟩, hF, he⟩ := h
  obtain rfl := he.to_map
  rcases ho with ⟨_, e0⟩ | ⟨g, cap, cur, rfl, _, hg, hc, _, _, ht⟩
  · exact absurd (List.eq_nil_of_length_eq_zero e0) hne
  · exact ⟨g, cap, rfl, hF g rfl, hc, cur, hg, by rw [hl]; exact ht⟩

/-- []byte(s) -/
theorem run_bytes {P : Program} {src dst e : TypeId} {s : ByteArray} (w : World) (hs : P.underlying src = some .string) (hd : P.underlying dst = some (.slice e)) (he : P.underlying e = some (.int .u8)) :
    ∃ c w' m, (convert src dst (.string s)).run P w = .ok (.slice (some ⟨w.heap.size, 0, none⟩) s.size c) w' ∧ s.size ≤ c ∧ RowAt w' w.heap.size e (m, m + 1) ((toL s).map u8v) ∧ s.size ≤ m ∧ Below w.heap.size w w' ∧ w'.heap.size = w.heap.size + 1 := by
  have hcap : s.size ≤ grownCap w s.size 0 e := grownCap_ge w s.size 0 e
  refine ⟨_, _, (Lib.bytesCells w e s).size, Lib.run_convert_string_bytes w src dst e s hs hd he, hcap, ⟨_, Lib.bytesWorld_at_new w e s, ?_⟩, ?_, ?_, Lib.bytesWorld_size w e s⟩
  · unfold Lib.bytesCells
    have e1 : (s.data.map fun b => Value.int .u8 b.toNat).toList.length = s.size := by rw [Array.length_toList, Array.size_map]; rfl
    rw [List.length_map, toL_len, Array.toList_append, List.take_append_of_le_length (by rw [e1]; exact Nat.le_refl _), List.take_of_length_le (by rw [e1]; exact Nat.le_refl _), Array.toList_map]
    rfl
  · unfold Lib.bytesCells
    rw [Array.size_append, Array.size_map]
    exact Nat.le_add_right _ _
  · exact ⟨rfl, rfl, rfl, by rw [Lib.bytesWorld_size]; omega, fun k hk => Lib.bytesWorld_at_old w e s k hk⟩
theorem wp_bytes {P : Program} {ops : Array Oper} {rest : List Oper} {d : Option Tmp} {ty : TypeId} {pos : String} {af : Array Edge} {a : Act} {Q : Exit → Act → World → Prop} {w : World} {src dst e : TypeId} {s : ByteArray} {x : Operand}
    (hs : P.underlying src = some .string) (hd : P.underlying dst = some (.slice e)) (he : P.underlying e = some (.int .u8)) (hx : a.eval x = .string s)
    (h : ∀ c w' m, s.size ≤ c → RowAt w' w.heap.size e (m, m + 1) ((toL s).map u8v) → s.size ≤ m → Below w.heap.size w w' → w'.heap.size = w.heap.size + 1 → wpList P ops Q rest (a.put d (.slice (some ⟨w.heap.size, 0, none⟩) s.size c)) w') :
    wpList P ops Q (⟨d, .convert src dst x, ty, pos, af, none⟩ :: rest) a w := by
  obtain ⟨c, w', m, hr, h1, h2, h3, h4, h5⟩ := run_bytes (P := P) (s := s) w hs hd he
  exact wp_val (exec_convert (by rw [hx]; exact hr)) (h c w' m h1 h2 h3 h4 h5)

end Go.Proofs.Ytlfcbhagbdonhaa.Pb
