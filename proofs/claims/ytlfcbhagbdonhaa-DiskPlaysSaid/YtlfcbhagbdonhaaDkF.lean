/-
  How a disk turns when one of its files turns, comes, goes.
  No condition.
-/
import Derived.Test.YtlfcbhagbdonhaaDkE
namespace Go.Proofs.Ytlfcbhagbdonhaa.Asc
set_option linter.unusedSimpArgs false
set_option linter.unusedVariables false
open Go Go.RowKit Go.Proofs.Ytlfcbhagbdonhaa.Pb

section
variable {w w' : World} {S : Nat → Prop} {d : Nat} {dk : Dk} {g : Tx → Option Nat} {tag : Nat → Option Tx} {mv : Option Nat}
theorem setF_len (fs : List Fl) (f : Fl) : (setF fs f).length = fs.length := by unfold setF; simp
theorem mem_setF {fs : List Fl} {f x : Fl} (h : x ∈ setF fs f) : x = f ∨ (x ∈ fs ∧ x.name ≠ f.name) := by
  unfold setF at h
  obtain ⟨y, hy, e⟩ := List.mem_map.1 h
  split at e
  · exact .inl e.symm
  · rename_i hn; rw [← e]; exact .inr ⟨hy, by simpa using hn⟩
/-- new blocks bear a name -/
def newTag (tag : Nat → Option Tx) (B : Nat) (n : Tx) : Nat → Option Tx := fun k => if B ≤ k then some n else tag k
theorem newTag_old {B : Nat} {n : Tx} {k : Nat} (h : k < B) : newTag tag B n k = tag k := by unfold newTag; rw [if_neg (by omega)]
theorem newTag_new {B : Nat} {n : Tx} {k : Nat} (h : B ≤ k) : newTag tag B n k = some n := by unfold newTag; rw [if_pos h]

/-- one file turns -/
theorem DIn.setFile {f f' : Fl} {fb : Nat} {v' : Value} (h : DIn w S d dk g tag mv) (hl : look dk.fs f'.name = some f) (hg : g f'.name = some fb)
    (hk : Keep (fun k => S k ∧ tag k = some f'.name) w w') (hf : FileIn w' (fun k => (S k ∧ tag k = some f'.name) ∨ w.heap.size ≤ k) fb f' v') (hsy : f'.sy ≤ f'.b.length) :
    DIn w' (fun k => S k ∨ w.heap.size ≤ k) d { dk with fs := setF dk.fs f' } g (newTag tag w.heap.size f'.name) mv := by
  obtain ⟨hfm, hfn⟩ := look_some hl
  refine ⟨hk.blk h.blk (fun e => h.out e.1), fun e => ?_, fun mb e => ?_, fun x hx => ?_, fun n hn => ?_, fun e => e.elim h.out fun e => by have := h.lt; omega, ?_⟩
  · have := (h.nomap e).1
    rw [this] at hfm; simp at hfm
  · obtain ⟨a, b, c⟩ := h.map mb e
    refine ⟨?_, .inl b, by rw [newTag_old a.lt]; exact c⟩
    show MapAt w' mb g (setF dk.fs f').length
    rw [setF_len]
    exact a.move (hk.block mb a.lt fun e => by rw [c] at e; cases e.2)
  · rcases mem_setF hx with rfl | ⟨hx, hne⟩
    · exact ⟨fb, v', hg, hf.mono fun k _ h' => by
        rcases h' with h' | h'
        · refine ⟨.inl h'.1, ?_⟩
          by_cases e : w.heap.size ≤ k
          · rw [newTag_new e]
          · rw [newTag_old (by omega)]; exact h'.2
        · exact ⟨.inr h', newTag_new h'⟩⟩
    · obtain ⟨xb, xv, a, b⟩ := h.files x hx
      refine ⟨xb, xv, a, (b.mono (T' := fun k => (S k ∨ w.heap.size ≤ k) ∧ newTag tag w.heap.size f'.name k = some x.name) fun k hk' h1 => ⟨.inl h1.1, by rw [newTag_old hk']; exact h1.2⟩).keep hk fun k hk' h1 h2 => hne ?_⟩
      have := h1.2
      rw [newTag_old hk', h2.2] at this
      exact (Option.some.inj this).symm
  · show n ∈ names (setF dk.fs f')
    rw [names_set]; exact h.dom n hn
  · refine ⟨h.ok.ord.set f', fun x hx => ?_, fun x hx => ?_, h.ok.lim⟩
    · rcases mem_setF hx with rfl | ⟨hx, _⟩
      · exact hsy
      · exact h.ok.sy x hx
    · rcases mem_setF hx with rfl | ⟨hx, _⟩
      · rw [← hfn]; exact h.ok.nam f hfm
      · exact h.ok.nam x hx

/-- it has a map of its own from now on -/
theorem DIn.makeMap {mb : Nat} (h : DIn w S d dk g tag none) (hk : Keep (fun k => k = d) w w') (hb : w'.heap[d]? = some (.cells (dcells dk (some mb)).toArray 61 (0, 0))) (hm : MapAt w' mb (fun _ => none) 0) (hmb : w.heap.size ≤ mb) :
    DIn w' (fun k => S k ∨ k = mb) d dk g (fun k => if k = mb then none else tag k) (some mb) := by
  obtain ⟨h1, h2⟩ := h.nomap rfl
  have hg : g = fun _ => none := funext h2
  have hd := h.lt
  refine ⟨hb, (fun e => (by cases e)), fun m e => ?_, fun f hf => by rw [h1] at hf; simp at hf, h.dom, fun e => e.elim h.out fun e => by omega, h.ok⟩
  cases e
  rw [hg, h1]
  exact ⟨hm, .inr rfl, by simp⟩
theorem putF_names (fs : List Fl) (f : Fl) (n : Tx) : n ∈ names (putF fs f) ↔ n = f.name ∨ n ∈ names fs := by
  unfold names
  simp only [List.mem_map, mem_putF]
  constructor
  · rintro ⟨x, rfl | hx, rfl⟩
    · exact .inl rfl
    · exact .inr ⟨x, hx, rfl⟩
  · rintro (rfl | ⟨x, hx, rfl⟩)
    · exact ⟨f, .inl rfl, rfl⟩
    · exact ⟨x, .inr hx, rfl⟩
/-- one file more -/
theorem DIn.addFile {mb fb : Nat} {f : Fl} {v : Value} {S' : Nat → Prop} {tag' : Nat → Option Tx} (h : DIn w S d dk g tag (some mb)) (hl : look dk.fs f.name = none) (hk : Keep (fun k => k = mb ∨ ¬ S k ∧ k ≠ d) w w')
    (hm : MapAt w' mb (upd g f.name (some fb)) (dk.fs.length + 1)) (hf : FileIn w' (fun k => S' k ∧ tag' k = some f.name) fb f v) (hS : ∀ k, S k → S' k) (ho : ¬ S' d) (ht : ∀ k, S k → k ≠ mb → tag' k = tag k) (htm : tag' mb = none)
    (hsy : f.sy ≤ f.b.length) (hnam : badName f.name = false) :
    DIn w' S' d { dk with fs := putF dk.fs f } (upd g f.name (some fb)) tag' (some mb) := by
  obtain ⟨m1, m2, m3⟩ := h.map mb rfl
  refine ⟨hk.blk h.blk (fun e => e.elim (fun e => h.out (e ▸ m2)) fun e => e.2 rfl), (fun e => (by cases e)), fun m e => ?_, fun x hx => ?_, fun n hn => ?_, ho, ?_⟩
  · cases e
    refine ⟨?_, hS _ m2, htm⟩
    show MapAt w' mb _ (putF dk.fs f).length
    rw [putF_len]; exact hm
  · rcases (mem_putF f dk.fs x).1 hx with rfl | hx
    · exact ⟨fb, v, by unfold upd; rw [if_pos rfl], hf⟩
    · obtain ⟨xb, xv, a, b⟩ := h.files x hx
      have hne : x.name ≠ f.name := look_none hl x hx
      refine ⟨xb, xv, by unfold upd; rw [if_neg hne]; exact a, (b.keep hk fun k hk' h1 h2 => ?_).mono fun k _ h1 => ⟨hS k h1.1, ?_⟩⟩
      · rcases h2 with rfl | h2
        · rw [m3] at h1; cases h1.2
        · exact h2.1 h1.1
      · rw [ht k h1.1 fun e => by rw [e, m3] at h1; cases h1.2]; exact h1.2
  · show n ∈ names (putF dk.fs f)
    rw [putF_names]
    unfold upd at hn
    by_cases e : n = f.name
    · exact .inl e
    · rw [if_neg e] at hn; exact .inr (h.dom n hn)
  · refine ⟨h.ok.ord.put f hl, fun x hx => ?_, fun x hx => ?_, h.ok.lim⟩
    · rcases (mem_putF f dk.fs x).1 hx with rfl | hx
      · exact hsy
      · exact h.ok.sy x hx
    · rcases (mem_putF f dk.fs x).1 hx with rfl | hx
      · exact hnam
      · exact h.ok.nam x hx
theorem dropF_len {fs : List Fl} (ho : Ord fs) (n : Tx) : (dropF fs n).length = if (look fs n).isSome then fs.length - 1 else fs.length := by
  induction fs with
  | nil => rfl
  | cons a fs ih =>
    have h' : (∀ x ∈ names fs, a.name < x) ∧ Ord fs := List.pairwise_cons.1 ho
    have ih := ih h'.2
    by_cases e : a.name = n
    · have hn : look fs n = none := look_none_iff.2 fun hm => by
        have := h'.1 n hm; rw [e] at this; exact List.lt_irrefl _ this
      rw [hn] at ih
      have e1 : dropF (a :: fs) n = dropF fs n := by unfold dropF; simp [e]
      have e2 : look (a :: fs) n = some a := by unfold look; simp [e]
      rw [e1, e2, ih]; simp
    · have e1 : dropF (a :: fs) n = a :: dropF fs n := by unfold dropF; simp [e]
      have e2 : look (a :: fs) n = look fs n := by unfold look; simp [e]
      rw [e1, e2, List.length_cons, ih]
      cases hl : look fs n with
      | none => simp
      | some x =>
        have : 0 < fs.length := List.length_pos_of_mem (look_some hl).1
        simp; omega
/-- a name goes -/
theorem DIn.dropFile {mb : Nat} {n : Tx} (h : DIn w S d dk g tag (some mb)) (hk : Keep (fun k => k = mb) w w') (hm : MapAt w' mb (upd g n none) (if (g n).isSome then dk.fs.length - 1 else dk.fs.length)) :
    DIn w' S d { dk with fs := dropF dk.fs n } (upd g n none) tag (some mb) := by
  obtain ⟨m1, m2, m3⟩ := h.map mb rfl
  refine ⟨hk.blk h.blk (fun e => h.out (e ▸ m2)), (fun e => (by cases e)), fun m e => ?_, fun x hx => ?_, fun x hx => ?_, h.out, ?_⟩
  · cases e
    refine ⟨?_, m2, m3⟩
    show MapAt w' mb _ (dropF dk.fs n).length
    rw [dropF_len h.ok.ord, ← h.hasg]; exact hm
  · obtain ⟨hx, hne⟩ := mem_dropF.1 hx
    obtain ⟨xb, xv, a, b⟩ := h.files x hx
    exact ⟨xb, xv, by unfold upd; rw [if_neg hne]; exact a, b.keep hk fun k _ h1 h2 => by rw [h2, m3] at h1; cases h1.2⟩
  · unfold upd at hx
    by_cases e : x = n
    · rw [if_pos e] at hx; exact (hx rfl).elim
    · rw [if_neg e] at hx
      obtain ⟨f, hf, rfl⟩ := List.mem_map.1 (h.dom x hx)
      exact List.mem_map.2 ⟨f, mem_dropF.2 ⟨hf, e⟩, rfl⟩
  · exact ⟨h.ok.ord.drop n, fun x hx => h.ok.sy x (mem_dropF.1 hx).1, fun x hx => h.ok.nam x (mem_dropF.1 hx).1, h.ok.lim⟩
/-- a file has another name -/
theorem DIn.moveFile {mb fb : Nat} {a b : Tx} {f : Fl} (h : DIn w S d dk g tag (some mb)) (hl : look dk.fs a = some f) (hg : g a = some fb) (hk : Keep (fun k => k = mb) w w')
    (hm : MapAt w' mb (upd (upd g a none) b (some fb)) ((dropF (dropF dk.fs a) b).length + 1)) (hb : badName b = false) :
    DIn w' S d { dk with fs := putF (dropF (dropF dk.fs a) b) { f with name := b } } (upd (upd g a none) b (some fb)) (fun k => if tag k = some a then some b else tag k) (some mb) := by
  obtain ⟨m1, m2, m3⟩ := h.map mb rfl
  obtain ⟨hfm, hfn⟩ := look_some hl
  have ho := (h.ok.ord.drop a).drop b
  have hnb : look (dropF (dropF dk.fs a) b) b = none := by rw [(h.ok.ord.drop a).look_drop, if_pos rfl]
  refine ⟨hk.blk h.blk (fun e => h.out (e ▸ m2)), (fun e => (by cases e)), fun m e => ?_, fun x hx => ?_, fun x hx => ?_, h.out, ?_⟩
  · cases e
    refine ⟨?_, m2, by show (if tag mb = some a then some b else tag mb) = none; rw [m3]; simp⟩
    show MapAt w' mb _ (putF (dropF (dropF dk.fs a) b) _).length
    rw [putF_len]; exact hm
  · rcases (mem_putF _ _ x).1 hx with rfl | hx
    · obtain ⟨xb, xv, e1, e2⟩ := h.files f hfm
      rw [hfn, hg] at e1
      cases e1
      have h2 := e2.keep hk fun k _ h1 h2 => by rw [h2, m3] at h1; cases h1.2
      refine ⟨fb, xv, by show upd _ b _ b = _; unfold upd; rw [if_pos rfl], ⟨h2.blk, h2.own, ⟨h2.inF.1, ?_⟩, fun k hk' => ⟨⟨(h2.inV k hk').1.1, ?_⟩, (h2.inV k hk').2⟩⟩⟩
      · rw [h2.inF.2, hfn, if_pos rfl]
      · rw [(h2.inV k hk').1.2, hfn, if_pos rfl]
    · obtain ⟨hx, hnb⟩ := mem_dropF.1 hx
      obtain ⟨hx, hna⟩ := mem_dropF.1 hx
      obtain ⟨xb, xv, e1, e2⟩ := h.files x hx
      refine ⟨xb, xv, by unfold upd; rw [if_neg hnb, if_neg hna]; exact e1, (e2.keep hk fun k _ h1 h2 => by rw [h2, m3] at h1; cases h1.2).mono fun k _ h1 => ⟨h1.1, ?_⟩⟩
      rw [h1.2, if_neg fun e => hna (Option.some.inj e)]
  · rw [show names ({ dk with fs := putF (dropF (dropF dk.fs a) b) { f with name := b } } : Dk).fs = names (putF (dropF (dropF dk.fs a) b) { f with name := b }) from rfl, putF_names]
    by_cases eb : x = b
    · exact .inl eb
    · unfold upd at hx
      rw [if_neg eb] at hx
      by_cases ea : x = a
      · rw [if_pos ea] at hx; exact (hx rfl).elim
      · rw [if_neg ea] at hx
        obtain ⟨y, hy, rfl⟩ := List.mem_map.1 (h.dom x hx)
        exact .inr (List.mem_map.2 ⟨y, mem_dropF.2 ⟨mem_dropF.2 ⟨hy, ea⟩, eb⟩, rfl⟩)
  · refine ⟨ho.put _ hnb, fun x hx => ?_, fun x hx => ?_, h.ok.lim⟩
    · rcases (mem_putF _ _ x).1 hx with rfl | hx
      · exact h.ok.sy f hfm
      · exact h.ok.sy x (mem_dropF.1 (mem_dropF.1 hx).1).1
    · rcases (mem_putF _ _ x).1 hx with rfl | hx
      · exact hb
      · exact h.ok.nam x (mem_dropF.1 (mem_dropF.1 hx).1).1
end
end Go.Proofs.Ytlfcbhagbdonhaa.Asc
