/-
  What a disk is, in plain Lean: files by rising names. No program here.
  No condition.
-/
import Derived.Test.YtlfcbhagbdonhaaHdrS
namespace Go.Proofs.Ytlfcbhagbdonhaa.Asc
set_option linter.unusedSimpArgs false
set_option linter.unusedVariables false
open Go.Proofs.Ytlfcbhagbdonhaa.Pb

/-- a file: its name, its bytes, how many are synced -/
structure Fl where
  name : Tx
  b : List UInt8
  sy : Nat
deriving DecidableEq

def names (fs : List Fl) : List Tx := fs.map (·.name)
def Ord (fs : List Fl) : Prop := Rise (names fs)
def look (fs : List Fl) (n : Tx) : Option Fl := fs.find? (fun f => f.name == n)
/-- bytes of all files -/
def usedN (fs : List Fl) : Nat := (fs.map (·.b.length)).sum
def putF : List Fl → Fl → List Fl
  | [], f => [f]
  | g :: fs, f => if f.name < g.name then f :: g :: fs else g :: putF fs f
def dropF (fs : List Fl) (n : Tx) : List Fl := fs.filter (fun f => f.name != n)
/-- a file in the place of the one of its name -/
def setF (fs : List Fl) (f : Fl) : List Fl := fs.map (fun g => if g.name == f.name then f else g)

theorem look_some {fs : List Fl} {n : Tx} {f : Fl} (h : look fs n = some f) : f ∈ fs ∧ f.name = n := by
  unfold look at h
  have := List.find?_some h
  exact ⟨List.mem_of_find?_eq_some h, by simpa using this⟩
theorem look_none {fs : List Fl} {n : Tx} (h : look fs n = none) : ∀ f ∈ fs, f.name ≠ n := by
  unfold look at h
  intro f hf
  have := List.find?_eq_none.1 h f hf
  simpa using this
theorem look_none_iff {fs : List Fl} {n : Tx} : look fs n = none ↔ n ∉ names fs := by
  constructor
  · intro h hm
    obtain ⟨f, hf, e⟩ := List.mem_map.1 hm
    exact look_none h f hf e
  · intro h
    unfold look
    rw [List.find?_eq_none]
    intro f hf
    simp only [beq_iff_eq]
    exact fun e => h (List.mem_map.2 ⟨f, hf, e⟩)
theorem Ord.uniq {fs : List Fl} (h : Ord fs) : ∀ f ∈ fs, ∀ g ∈ fs, f.name = g.name → f = g := by
  induction fs with
  | nil => intro f hf; simp at hf
  | cons a fs ih =>
    have h' : (∀ x ∈ names fs, a.name < x) ∧ Ord fs := List.pairwise_cons.1 h
    intro f hf g hg e
    rcases List.mem_cons.1 hf with e1 | hf
    · rcases List.mem_cons.1 hg with e2 | hg
      · rw [e1, e2]
      · have := h'.1 _ (List.mem_map.2 ⟨g, hg, rfl⟩)
        rw [← e, e1] at this
        exact (List.lt_irrefl _ this).elim
    · rcases List.mem_cons.1 hg with e2 | hg
      · have := h'.1 _ (List.mem_map.2 ⟨f, hf, rfl⟩)
        rw [e, e2] at this
        exact (List.lt_irrefl _ this).elim
      · exact ih h'.2 f hf g hg e
theorem Ord.look_mem {fs : List Fl} (h : Ord fs) {f : Fl} (hf : f ∈ fs) : look fs f.name = some f := by
  cases hl : look fs f.name with
  | none => exact (look_none hl f hf rfl).elim
  | some g =>
    obtain ⟨h1, h2⟩ := look_some hl
    rw [h.uniq g h1 f hf h2]

theorem mem_putF (f : Fl) : ∀ (fs : List Fl) (x : Fl), x ∈ putF fs f ↔ x = f ∨ x ∈ fs := by
  intro fs
  induction fs with
  | nil => intro x; simp [putF]
  | cons g fs ih =>
    intro x
    unfold putF
    split
    · simp
    · simp only [List.mem_cons, ih]
      exact ⟨fun h => h.elim (fun h => .inr (.inl h)) fun h => h.elim .inl fun h => .inr (.inr h), fun h => h.elim (fun h => .inr (.inl h)) fun h => h.elim .inl fun h => .inr (.inr h)⟩
theorem Ord.put {fs : List Fl} (h : Ord fs) (f : Fl) (hn : look fs f.name = none) : Ord (putF fs f) := by
  induction fs with
  | nil => exact List.pairwise_singleton _ _
  | cons g fs ih =>
    have h' : (∀ x ∈ names fs, g.name < x) ∧ Ord fs := List.pairwise_cons.1 h
    unfold putF
    split
    · rename_i hlt
      refine List.pairwise_cons.2 ⟨fun x hx => ?_, h⟩
      rcases List.mem_cons.1 hx with rfl | hx
      · exact hlt
      · exact List.lt_trans hlt (h'.1 x hx)
    · rename_i hlt
      have hne : f.name ≠ g.name := fun e => look_none hn g (by simp) e.symm
      have hgf : g.name < f.name := by
        rcases tx_total f.name g.name with k | k | k
        · exact (hlt k).elim
        · exact (hne k).elim
        · exact k
      have hn' : look fs f.name = none := look_none_iff.2 fun hm => look_none_iff.1 hn (by unfold names at hm ⊢; simp [hm])
      refine List.pairwise_cons.2 ⟨fun x hx => ?_, ih h'.2 hn'⟩
      obtain ⟨y, hy, rfl⟩ := List.mem_map.1 hx
      rcases (mem_putF f fs y).1 hy with rfl | hy
      · exact hgf
      · exact h'.1 _ (List.mem_map.2 ⟨y, hy, rfl⟩)
theorem Ord.drop {fs : List Fl} (h : Ord fs) (n : Tx) : Ord (dropF fs n) := by
  unfold dropF
  exact List.Pairwise.sublist (List.Sublist.map _ List.filter_sublist) h
theorem names_set (fs : List Fl) (f : Fl) : names (setF fs f) = names fs := by
  unfold names setF
  rw [List.map_map]
  refine List.map_congr_left fun g hg => ?_
  show (if g.name == f.name then f else g).name = g.name
  split
  · rename_i e; exact (by simpa using e : g.name = f.name).symm
  · rfl
theorem Ord.set {fs : List Fl} (h : Ord fs) (f : Fl) : Ord (setF fs f) := by unfold Ord; rw [names_set]; exact h
theorem mem_dropF {fs : List Fl} {n : Tx} {x : Fl} : x ∈ dropF fs n ↔ x ∈ fs ∧ x.name ≠ n := by unfold dropF; simp

theorem Ord.look_eq {fs : List Fl} (h : Ord fs) {n : Tx} {o : Option Fl} (h1 : ∀ f, o = some f → f ∈ fs ∧ f.name = n) (h2 : o = none → n ∉ names fs) : look fs n = o := by
  cases ho : o with
  | none => exact look_none_iff.2 (h2 ho)
  | some f =>
    obtain ⟨k1, k2⟩ := h1 f ho
    rw [← k2]; exact h.look_mem k1
theorem Ord.look_put {fs : List Fl} (h : Ord fs) (f : Fl) (hn : look fs f.name = none) (n : Tx) : look (putF fs f) n = if n = f.name then some f else look fs n := by
  refine (h.put f hn).look_eq (fun g hg => ?_) fun hg => ?_
  · split at hg
    · rename_i e; cases hg; exact ⟨(mem_putF f fs f).2 (.inl rfl), e.symm⟩
    · obtain ⟨k1, k2⟩ := look_some hg
      exact ⟨(mem_putF f fs g).2 (.inr k1), k2⟩
  · split at hg
    · cases hg
    · rename_i e
      intro hm
      obtain ⟨y, hy, rfl⟩ := List.mem_map.1 hm
      rcases (mem_putF f fs y).1 hy with rfl | hy
      · exact e rfl
      · exact look_none hg y hy rfl
theorem Ord.look_drop {fs : List Fl} (h : Ord fs) (m n : Tx) : look (dropF fs m) n = if n = m then none else look fs n := by
  refine (h.drop m).look_eq (fun g hg => ?_) fun hg => ?_
  · split at hg
    · cases hg
    · rename_i e
      obtain ⟨k1, k2⟩ := look_some hg
      exact ⟨mem_dropF.2 ⟨k1, fun e' => e (k2 ▸ e')⟩, k2⟩
  · intro hm
    obtain ⟨y, hy, rfl⟩ := List.mem_map.1 hm
    obtain ⟨hy, hne⟩ := mem_dropF.1 hy
    rw [if_neg hne] at hg
    exact look_none hg y hy rfl
theorem Ord.look_set {fs : List Fl} (h : Ord fs) (f g : Fl) (hf : look fs f.name = some g) (n : Tx) : look (setF fs f) n = if n = f.name then some f else look fs n := by
  obtain ⟨hg, hgn⟩ := look_some hf
  refine (h.set f).look_eq (fun x hx => ?_) fun hx => ?_
  · split at hx
    · rename_i e; cases hx
      exact ⟨List.mem_map.2 ⟨g, hg, by rw [hgn]; simp⟩, e.symm⟩
    · rename_i e
      obtain ⟨k1, k2⟩ := look_some hx
      exact ⟨List.mem_map.2 ⟨x, k1, by rw [if_neg]; simp only [beq_iff_eq]; rw [k2]; exact e⟩, k2⟩
  · split at hx
    · cases hx
    · rw [names_set]; exact look_none_iff.1 hx
/-- two disks of which each name is told alike are one -/
theorem Ord.ext {a b : List Fl} (ha : Ord a) (hb : Ord b) (h : ∀ n, look a n = look b n) : a = b := by
  have hm : ∀ f, f ∈ a ↔ f ∈ b := fun f => ⟨fun hf => by
    have := ha.look_mem hf; rw [h] at this; exact (look_some this).1, fun hf => by
    have := hb.look_mem hf; rw [← h] at this; exact (look_some this).1⟩
  have hn : names a = names b := rise_uniq ha hb fun x => by
    unfold names
    simp only [List.mem_map]
    exact ⟨fun ⟨f, hf, e⟩ => ⟨f, (hm f).1 hf, e⟩, fun ⟨f, hf, e⟩ => ⟨f, (hm f).2 hf, e⟩⟩
  have hl : a.length = b.length := by have := congrArg List.length hn; simpa [names] using this
  refine List.ext_getElem hl fun i h1 h2 => ?_
  have e : a[i].name = b[i].name := by
    have := congrArg (fun l => l[i]?) hn
    simpa [names, h1, h2] using this
  exact hb.uniq _ ((hm _).1 (List.getElem_mem h1)) _ (List.getElem_mem h2) e

theorem putF_len (fs : List Fl) (f : Fl) : (putF fs f).length = fs.length + 1 := by
  induction fs with
  | nil => rfl
  | cons g fs ih => unfold putF; split <;> simp [ih]
theorem putF_used (fs : List Fl) (f : Fl) : usedN (putF fs f) = usedN fs + f.b.length := by
  induction fs with
  | nil => simp [putF, usedN]
  | cons g fs ih =>
    unfold putF
    split
    · simp [usedN]; omega
    · have : usedN (g :: putF fs f) = g.b.length + usedN (putF fs f) := by simp [usedN]
      rw [this, ih]; simp [usedN]; omega
theorem used_mem {fs : List Fl} {f : Fl} (h : f ∈ fs) : f.b.length ≤ usedN fs := by
  induction fs with
  | nil => simp at h
  | cons g fs ih =>
    rcases List.mem_cons.1 h with rfl | h
    · simp [usedN]
    · have := ih h; simp [usedN] at this ⊢; omega

/-! ### a disk -/
structure Dk where
  room : Int := 0
  fs : List Fl := []
  ops : Nat := 0
  /-- how many ops are left ahead of the cut -/
  lim : Option Nat := none
deriving DecidableEq

def badName (n : Tx) : Bool := n.isEmpty || decide (n.length > 100)
/-- an op begins -/
def Dk.tick (d : Dk) : Dk := { d with ops := d.ops + 1, lim := d.lim.map (· - 1) }
def Dk.off (d : Dk) : Bool := d.lim == some 0
def Dk.append (d : Dk) (n : Tx) (b : List UInt8) : Int × Dk :=
  if d.off then (6, d.tick)
  else if badName n then (1, d.tick)
  else if ((look d.fs n).isNone && decide (d.fs.length ≥ 64)) || decide ((usedN d.fs + b.length : Int) > d.room) then (3, d.tick)
  else match look d.fs n with
    | none => (0, { d.tick with fs := putF d.fs ⟨n, b, 0⟩ })
    | some f => (0, { d.tick with fs := setF d.fs { f with b := f.b ++ b } })
def syncF (fs : List Fl) (n : Tx) : List Fl := match look fs n with
  | none => fs
  | some f => setF fs { f with sy := f.b.length }
def Dk.sync (d : Dk) (l : List Tx) : Int × Dk :=
  if d.off then (6, d.tick)
  else if l.any (fun n => (look d.fs n).isNone) then (4, d.tick)
  else (0, { d.tick with fs := l.foldl syncF d.fs })
def Dk.rename (d : Dk) (a b : Tx) : Int × Dk :=
  if d.off then (6, d.tick)
  else match look d.fs a with
    | none => (4, d.tick)
    | some f => if badName b then (1, d.tick) else (0, { d.tick with fs := putF (dropF (dropF d.fs a) b) { f with name := b } })
def Dk.truncate (d : Dk) (n : Tx) (k : Int) : Int × Dk :=
  if d.off then (6, d.tick)
  else match look d.fs n with
    | none => (4, d.tick)
    | some f => if k < 0 ∨ k > f.b.length then (1, d.tick) else (0, { d.tick with fs := setF d.fs { f with b := f.b.take k.toNat, sy := min f.sy k.toNat } })
def Dk.remove (d : Dk) (n : Tx) : Int × Dk :=
  if d.off then (6, d.tick)
  else match look d.fs n with
    | none => (4, d.tick)
    | some _ => (0, { d.tick with fs := dropF d.fs n })
def Dk.cut (d : Dk) (n : Int) : Dk := { d with lim := some n.toNat }
def crashF : List Fl → List Int → List Fl
  | [], _ => []
  | f :: fs, ps =>
    if f.b.length - f.sy = 0 then ⟨f.name, f.b.take f.sy, f.sy⟩ :: crashF fs ps
    else match ps with
      | [] => ⟨f.name, f.b.take f.sy, f.sy⟩ :: crashF fs []
      | p :: ps => ⟨f.name, f.b.take (f.sy + (p % ((f.b.length - f.sy : Nat) + 1 : Int)).toNat), f.sy + (p % ((f.b.length - f.sy : Nat) + 1 : Int)).toNat⟩ :: crashF fs ps
def Dk.crash (d : Dk) (ps : List Int) : Dk := { room := d.room, fs := crashF d.fs ps }
/-- its files are by rising names, and synced no further than they go -/
structure Dk.Ok (d : Dk) : Prop where
  ord : Ord d.fs
  sy : ∀ f ∈ d.fs, f.sy ≤ f.b.length
  nam : ∀ f ∈ d.fs, badName f.name = false
  lim : ∀ v, d.lim = some v → v ≤ 9223372036854775807
theorem Dk.Ok.tick {d : Dk} (h : d.Ok) : d.tick.Ok := ⟨h.ord, h.sy, h.nam, fun v e => by
  unfold Dk.tick at e
  cases hl : d.lim with
  | none => rw [hl] at e; simp at e
  | some u => rw [hl] at e; have := h.lim u hl; simp at e; omega⟩
end Go.Proofs.Ytlfcbhagbdonhaa.Asc
