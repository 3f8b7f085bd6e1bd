/-
  A disk stays within its room, whatever is called; the two disks side by side.
  No condition beyond what each says.
-/
import Derived.Test.YtlfcbhagbdonhaaDrM
namespace Go.Proofs.Ytlfcbhagbdonhaa.Asc
set_option linter.unusedSimpArgs false
set_option linter.unusedVariables false
open Go Go.RowKit Go.Proofs.Ytlfcbhagbdonhaa.Pb

structure Fits (d : Dk) : Prop where
  r0 : 0 ≤ d.room
  r1 : d.room ≤ 4194304
  used : (usedN d.fs : Int) ≤ d.room
  len : d.fs.length ≤ 64
theorem Fits.usd {d : Dk} (h : Fits d) : usedN d.fs ≤ 4194304 := by have := h.used; have := h.r1; omega
theorem Fits.tick {d : Dk} (h : Fits d) : Fits d.tick := ⟨h.r0, h.r1, h.used, h.len⟩
theorem Fits.fs {d : Dk} (h : Fits d) {fs : List Fl} (hu : usedN fs ≤ usedN d.fs) (hl : fs.length ≤ d.fs.length) : Fits { d.tick with fs := fs } :=
  ⟨h.r0, h.r1, by have := h.used; show (usedN fs : Int) ≤ d.room; omega, Nat.le_trans hl h.len⟩
theorem used_app (a b : List Fl) : usedN (a ++ b) = usedN a + usedN b := by simp [usedN]
theorem used_cons (f : Fl) (b : List Fl) : usedN (f :: b) = f.b.length + usedN b := by simp [usedN]
theorem look_split {fs : List Fl} {n : Tx} {g : Fl} (h : look fs n = some g) : ∃ A B, fs = A ++ g :: B := by
  obtain ⟨h1, _⟩ := look_some h
  exact List.append_of_mem h1
theorem used_set {fs : List Fl} (ho : Ord fs) {f g : Fl} (h : look fs f.name = some g) : usedN (setF fs f) + g.b.length = usedN fs + f.b.length := by
  obtain ⟨A, B, rfl⟩ := look_split h
  have hn : f.name = g.name := (look_some h).2.symm
  rw [setF_mid ho hn, used_app, used_app, used_cons, used_cons]; omega
theorem set_len (fs : List Fl) (f : Fl) : (setF fs f).length = fs.length := by simp [setF]
theorem used_drop (fs : List Fl) (n : Tx) : usedN (dropF fs n) ≤ usedN fs := by
  induction fs with
  | nil => exact Nat.le_refl _
  | cons f fs ih =>
    unfold dropF at ih ⊢
    rw [List.filter_cons]
    split
    · rw [used_cons, used_cons]; omega
    · rw [used_cons]; omega
theorem drop_len (fs : List Fl) (n : Tx) : (dropF fs n).length ≤ fs.length := List.length_filter_le _ _
theorem used_drop1 {fs : List Fl} {n : Tx} {f : Fl} (h : look fs n = some f) : usedN (dropF fs n) + f.b.length ≤ usedN fs ∧ (dropF fs n).length + 1 ≤ fs.length := by
  obtain ⟨A, B, rfl⟩ := look_split h
  have hn := (look_some h).2
  have hd : dropF (A ++ f :: B) n = dropF A n ++ dropF B n := by unfold dropF; rw [List.filter_append, List.filter_cons, if_neg (by simp [hn])]
  rw [hd, used_app, used_app, used_cons]
  have h1 := used_drop A n; have h2 := used_drop B n; have h3 := drop_len A n; have h4 := drop_len B n
  simp; omega
theorem fits_append {d : Dk} (h : Fits d) (ho : d.Ok) (n : Tx) (b : List UInt8) {E : Int} {d' : Dk} (he : d.append n b = (E, d')) : Fits d' ∧ d'.ops = d.ops + 1 := by
  unfold Dk.append at he
  split at he
  · cases he; exact ⟨h.tick, rfl⟩
  split at he
  · cases he; exact ⟨h.tick, rfl⟩
  split at he
  · cases he; exact ⟨h.tick, rfl⟩
  rename_i _ _ h3
  simp only [Bool.or_eq_true, Bool.and_eq_true, decide_eq_true_eq, not_or] at h3
  split at he
  · rename_i hl
    cases he
    refine ⟨⟨h.r0, h.r1, ?_, ?_⟩, rfl⟩
    · show ((usedN (putF d.fs ⟨n, b, 0⟩) : Nat) : Int) ≤ d.room
      rw [putF_used]; show (((usedN d.fs + b.length : Nat)) : Int) ≤ _; have := h3.2; omega
    · show (putF d.fs ⟨n, b, 0⟩).length ≤ 64
      rw [putF_len]
      have := h3.1
      rw [hl] at this
      simp at this; omega
  · rename_i f hl
    cases he
    refine ⟨⟨h.r0, h.r1, ?_, ?_⟩, rfl⟩
    · have hn := (look_some hl).2
      have := used_set ho.ord (f := { f with b := f.b ++ b }) (g := f) (by show look d.fs f.name = _; rw [hn]; exact hl)
      rw [show ({ f with b := f.b ++ b } : Fl).b = f.b ++ b from rfl, List.length_append] at this
      show ((usedN (setF d.fs { f with b := f.b ++ b }) : Nat) : Int) ≤ d.room
      have := h3.2; omega
    · show (setF d.fs _).length ≤ 64
      rw [set_len]; exact h.len
theorem used_syncF {fs : List Fl} (ho : Ord fs) (n : Tx) : usedN (syncF fs n) = usedN fs ∧ (syncF fs n).length = fs.length ∧ Ord (syncF fs n) := by
  unfold syncF
  cases hl : look fs n with
  | none => exact ⟨rfl, rfl, ho⟩
  | some f =>
    have hn := (look_some hl).2
    have := used_set ho (f := { f with sy := f.b.length }) (g := f) (by show look fs f.name = _; rw [hn]; exact hl)
    exact ⟨by have : usedN (setF fs { f with sy := f.b.length }) + f.b.length = usedN fs + f.b.length := this
              show usedN (setF fs _) = _; omega, set_len _ _, ho.set _⟩
theorem used_syncs : ∀ (l : List Tx) {fs : List Fl}, Ord fs → usedN (l.foldl syncF fs) = usedN fs ∧ (l.foldl syncF fs).length = fs.length
  | [], _, _ => ⟨rfl, rfl⟩
  | n :: l, fs, ho => by
    obtain ⟨h1, h2, h3⟩ := used_syncF ho n
    obtain ⟨h4, h5⟩ := used_syncs l h3
    exact ⟨h4.trans h1, h5.trans h2⟩
theorem fits_sync {d : Dk} (h : Fits d) (ho : d.Ok) (l : List Tx) {E : Int} {d' : Dk} (he : d.sync l = (E, d')) : Fits d' ∧ d'.ops = d.ops + 1 := by
  unfold Dk.sync at he
  split at he
  · cases he; exact ⟨h.tick, rfl⟩
  split at he
  · cases he; exact ⟨h.tick, rfl⟩
  cases he
  obtain ⟨h1, h2⟩ := used_syncs l ho.ord
  exact ⟨h.fs (Nat.le_of_eq h1) (Nat.le_of_eq h2), rfl⟩
theorem fits_rename {d : Dk} (h : Fits d) (a b : Tx) {E : Int} {d' : Dk} (he : d.rename a b = (E, d')) : Fits d' ∧ d'.ops = d.ops + 1 := by
  unfold Dk.rename at he
  split at he
  · cases he; exact ⟨h.tick, rfl⟩
  split at he
  · cases he; exact ⟨h.tick, rfl⟩
  rename_i f hl
  split at he
  · cases he; exact ⟨h.tick, rfl⟩
  cases he
  obtain ⟨h1, h2⟩ := used_drop1 hl
  have h3 := used_drop (dropF d.fs a) b
  have h4 := drop_len (dropF d.fs a) b
  refine ⟨h.fs ?_ ?_, rfl⟩
  · rw [putF_used]; show _ + f.b.length ≤ _; omega
  · rw [putF_len]; omega
theorem fits_truncate {d : Dk} (h : Fits d) (ho : d.Ok) (n : Tx) (k : Int) {E : Int} {d' : Dk} (he : d.truncate n k = (E, d')) : Fits d' ∧ d'.ops = d.ops + 1 := by
  unfold Dk.truncate at he
  split at he
  · cases he; exact ⟨h.tick, rfl⟩
  split at he
  · cases he; exact ⟨h.tick, rfl⟩
  rename_i f hl
  split at he
  · cases he; exact ⟨h.tick, rfl⟩
  cases he
  have hn := (look_some hl).2
  have h1 := used_set ho.ord (f := { f with b := f.b.take k.toNat, sy := min f.sy k.toNat }) (g := f) (by show look d.fs f.name = _; rw [hn]; exact hl)
  refine ⟨h.fs ?_ (Nat.le_of_eq (set_len _ _)), rfl⟩
  have h2 : (f.b.take k.toNat).length ≤ f.b.length := by rw [List.length_take]; omega
  have h3 : usedN (setF d.fs { f with b := f.b.take k.toNat, sy := min f.sy k.toNat }) + f.b.length = usedN d.fs + (f.b.take k.toNat).length := h1
  omega
theorem fits_remove {d : Dk} (h : Fits d) (n : Tx) {E : Int} {d' : Dk} (he : d.remove n = (E, d')) : Fits d' ∧ d'.ops = d.ops + 1 := by
  unfold Dk.remove at he
  split at he
  · cases he; exact ⟨h.tick, rfl⟩
  split at he
  · cases he; exact ⟨h.tick, rfl⟩
  cases he
  exact ⟨h.fs (used_drop _ _) (drop_len _ _), rfl⟩
theorem used_crash : ∀ (fs : List Fl) (ps : List Int), usedN (crashF fs ps) ≤ usedN fs ∧ (crashF fs ps).length = fs.length
  | [], _ => ⟨Nat.le_refl _, rfl⟩
  | f :: fs, ps => by
    rw [crashF_cons]
    obtain ⟨h1, h2⟩ := used_crash fs (crash1 f ps).2
    rw [used_cons, used_cons]
    refine ⟨?_, by rw [List.length_cons, List.length_cons, h2]⟩
    have : (crashed f (crash1 f ps).1).b.length ≤ f.b.length := by show (f.b.take _).length ≤ _; rw [List.length_take]; omega
    omega
theorem fits_crash {d : Dk} (h : Fits d) (ps : List Int) : Fits (d.crash ps) := by
  obtain ⟨h1, h2⟩ := used_crash d.fs ps
  exact ⟨h.r0, h.r1, by have := h.used; show ((usedN (crashF d.fs ps) : Nat) : Int) ≤ d.room; omega, by show (crashF d.fs ps).length ≤ 64; rw [h2]; exact h.len⟩
theorem fits_cut {d : Dk} (h : Fits d) (n : Int) : Fits (d.cut n) := ⟨h.r0, h.r1, h.used, h.len⟩

section
variable {w w' : World} {F F' : Nat → Prop} {b : Nat} {dk : Dk}
theorem RAt.lt (h : RAt w F b dk) : b < w.heap.size := by obtain ⟨_, _, h⟩ := h; exact h.lt
theorem RAt.mono (h : RAt w F b dk) (hF : ∀ k, k < w.heap.size → F k → F' k) (ho : ¬ F' b) : RAt w F' b dk := by obtain ⟨lv, last, h⟩ := h; exact ⟨lv, last, h.mono hF ho⟩
theorem RAt.keep {G : Nat → Prop} (h : RAt w F b dk) (hk : Keep G w w') (hG : ∀ k, F k ∨ k = b → ¬ G k) : RAt w' F b dk := by obtain ⟨lv, last, h⟩ := h; exact ⟨lv, last, h.keep hk hG⟩
theorem RAt.below (h : RAt w F b dk) (hk : Below w.heap.size w w') : RAt w' F b dk := by obtain ⟨lv, last, h⟩ := h; exact ⟨lv, last, h.below hk⟩
end
/-- both disks, apart from one another, made behind B0 -/
structure Two4 (B0 : Nat) (w : World) (S F : Nat → Prop) (d b : Nat) (x y : Dk) : Prop where
  dd : DAt w S d x
  rr : RAt w F b y
  lowS : ∀ k, S k ∨ k = d → B0 ≤ k ∧ k < w.heap.size
  lowF : ∀ k, F k ∨ k = b → B0 ≤ k ∧ k < w.heap.size
  sep : ∀ k, S k ∨ k = d → ¬ (F k ∨ k = b)
section
variable {w w' : World} {S F : Nat → Prop} {d b B0 : Nat} {x y x' y' : Dk}
theorem Two4.b0 (h : Two4 B0 w S F d b x y) : B0 ≤ w.heap.size := by have := h.lowS d (.inr rfl); omega
theorem Two4.goD (h : Two4 B0 w S F d b x y) (hd : DAt w' (fun k => S k ∨ w.heap.size ≤ k) d x') (hk : Keep (fun k => S k ∨ k = d) w w') : Two4 B0 w' (fun k => S k ∨ (w.heap.size ≤ k ∧ k < w'.heap.size)) F d b x' y ∧ Below B0 w w' := by
  have hs := hk.size
  have hb0 := h.b0
  refine ⟨⟨hd.mono (fun k hk h => h.imp id fun h => ⟨h, hk⟩) fun e => ?_, h.rr.keep hk fun k hF hS => h.sep k hS hF, fun k hk => ?_, fun k hk => ?_, fun k hk => ?_⟩, hk.below h.b0 fun i hi e => by have := h.lowS i e; omega⟩
  · rcases e with e | e
    · obtain ⟨g, tag, mv, hh⟩ := h.dd; exact hh.out e
    · have := h.lowS d (.inr rfl); omega
  · rcases hk with (e | e) | e
    · have := h.lowS k (.inl e); omega
    · omega
    · have := h.lowS k (.inr e); omega
  · have := h.lowF k hk; omega
  · rcases hk with (e | e) | e
    · exact h.sep k (.inl e)
    · intro e2; have := h.lowF k e2; omega
    · exact h.sep k (.inr e)
theorem Two4.goR (h : Two4 B0 w S F d b x y) (hd : RAt w' (fun k => F k ∨ w.heap.size ≤ k) b y') (hk : Keep (fun k => F k ∨ k = b) w w') : Two4 B0 w' S (fun k => F k ∨ (w.heap.size ≤ k ∧ k < w'.heap.size)) d b x y' ∧ Below B0 w w' := by
  have hs := hk.size
  have hb0 := h.b0
  refine ⟨⟨h.dd.keep hk fun k _ hS hF => h.sep k hS hF, hd.mono (fun k hk h => h.imp id fun h => ⟨h, hk⟩) fun e => ?_, fun k hk => ?_, fun k hk => ?_, fun k hk => ?_⟩, hk.below h.b0 fun i hi e => by have := h.lowF i e; omega⟩
  · rcases e with e | e
    · obtain ⟨lv, last, hh⟩ := h.rr; exact hh.out e
    · have := h.lowF b (.inr rfl); omega
  · have := h.lowS k hk; omega
  · rcases hk with (e | e) | e
    · have := h.lowF k (.inl e); omega
    · omega
    · have := h.lowF k (.inr e); omega
  · intro e2
    rcases e2 with (e | e) | e
    · exact h.sep k hk (.inl e)
    · have := h.lowS k hk; omega
    · exact h.sep k hk (.inr e)
theorem Two4.below (h : Two4 B0 w S F d b x y) (hb : Below w.heap.size w w') : Two4 B0 w' S F d b x y :=
  ⟨h.dd.below hb, h.rr.below hb, fun k hk => by have := h.lowS k hk; have := hb.size; omega, fun k hk => by have := h.lowF k hk; have := hb.size; omega, h.sep⟩
end
/-! ### what is called, by what it answers -/
section
variable {w : World} {S : Nat → Prop} {d : Nat} {dk dk' : Dk} {E : Int}
theorem sync_at (h : DAt w S d dk) (ho : dk.ops ≤ 1000000) (ls : List Tx) (sv : Value) (F : Nat → Prop) (hv : View Rp.str w F ls sv) (hF : ∀ k, F k → ¬ S k ∧ k ≠ d) (hls : ls.length ≤ 1000000) (hlx : ∀ x ∈ ls, x.length ≤ 1000000) (he : dk.sync ls = (E, dk')) :
    Calls Try.prog 12 #[.pointer (some ⟨d, 0, none⟩), sv] w fun e w' => e = .returned (.int .i64 E) ∧ DAt w' (fun k => S k ∨ w.heap.size ≤ k) d dk' ∧ Keep (fun k => S k ∨ k = d) w w' := by
  obtain ⟨g, tag, mv, hd⟩ := h
  refine (syncd_any hd ho ls sv F hv hF hls hlx).mono ?_
  rw [he]; rintro e w' ⟨h1, h2, h3⟩; exact ⟨h1, h2, h3⟩
theorem rename_at (h : DAt w S d dk) (ho : dk.ops ≤ 1000000) (hlen : dk.fs.length ≤ 1000) (T V : ByteArray) (hT : T.size ≤ 1000000) (hV : V.size ≤ 1000000) (he : dk.rename (toL T) (toL V) = (E, dk')) :
    Calls Try.prog 22 #[.pointer (some ⟨d, 0, none⟩), .string T, .string V] w fun e w' => e = .returned (.int .i64 E) ∧ DAt w' (fun k => S k ∨ w.heap.size ≤ k) d dk' ∧ Keep (fun k => S k ∨ k = d) w w' := by
  obtain ⟨g, tag, mv, hd⟩ := h
  refine (rename_any hd ho hlen T V hT hV).mono ?_
  rw [he]; rintro e w' ⟨h1, h2, h3⟩; exact ⟨h1, h2, h3⟩
theorem truncate_at (h : DAt w S d dk) (ho : dk.ops ≤ 1000000) (T : ByteArray) (hT : T.size ≤ 1000000) (n : Int) (he : dk.truncate (toL T) n = (E, dk')) :
    Calls Try.prog 23 #[.pointer (some ⟨d, 0, none⟩), .string T, .int .i64 n] w fun e w' => e = .returned (.int .i64 E) ∧ DAt w' (fun k => S k ∨ w.heap.size ≤ k) d dk' ∧ Keep (fun k => S k ∨ k = d) w w' := by
  obtain ⟨g, tag, mv, hd⟩ := h
  refine (truncate_any hd ho T hT n).mono ?_
  rw [he]; rintro e w' ⟨h1, h2, h3⟩; exact ⟨h1, h2, h3⟩
end
section
variable {w : World} {F : Nat → Prop} {b : Nat} {dk dk' : Dk} {E : Int}
theorem rappend_at (h : RAt w F b dk) (hok : dk.Ok) (hf : Fits dk) (ho : dk.ops ≤ 1000000) (T : ByteArray) (hT : T.size ≤ 1000000) (bs : List UInt8) (bv : Value) (G : Nat → Prop) (hv : View Rp.u8 w G bs bv) (hG : ∀ k, G k → ¬ F k ∧ k ≠ b) (hbl : bs.length ≤ 1000000) (he : dk.append (toL T) bs = (E, dk')) :
    Calls Try.prog 41 #[.pointer (some ⟨b, 0, none⟩), .string T, bv] w fun e w' => e = .returned (.int .i64 E) ∧ RAt w' (fun j => F j ∨ w.heap.size ≤ j) b dk' ∧ Keep (fun j => F j ∨ j = b) w w' := by
  obtain ⟨lv, last, hd⟩ := h
  refine (rappend_any hd hok ho (Nat.le_trans hf.len (by decide)) hf.usd ⟨hf.r0, hf.r1⟩ T hT bs bv G hv hG hbl).mono ?_
  rw [he]; rintro e w' ⟨h1, h2, h3⟩; exact ⟨h1, h2, h3⟩
theorem rsync_at (h : RAt w F b dk) (hok : dk.Ok) (hf : Fits dk) (ho : dk.ops ≤ 1000000) (ls : List Tx) (sv : Value) (G : Nat → Prop) (hv : View Rp.str w G ls sv) (hG : ∀ k, G k → ¬ F k ∧ k ≠ b) (hls : ls.length ≤ 1000000) (hlx : ∀ x ∈ ls, x.length ≤ 1000000) (he : dk.sync ls = (E, dk')) :
    Calls Try.prog 42 #[.pointer (some ⟨b, 0, none⟩), sv] w fun e w' => e = .returned (.int .i64 E) ∧ RAt w' (fun j => F j ∨ w.heap.size ≤ j) b dk' ∧ Keep (fun j => F j ∨ j = b) w w' := by
  have hlt := h.lt
  obtain ⟨lv, last, hd⟩ := h
  refine (rsync_any hd hok ho (Nat.le_trans hf.len (by decide)) (fun f hf' => Nat.le_trans (used_mem hf') (Nat.le_trans hf.usd (by decide))) ls sv G hv hG hls hlx).mono ?_
  rw [he]; rintro e w' ⟨h1, h2, h3⟩; exact ⟨h1, h2.mono (fun _ _ h => .inl h) fun h => h.elim hd.out fun h => by omega, h3⟩
theorem rrename_at (h : RAt w F b dk) (hok : dk.Ok) (hf : Fits dk) (ho : dk.ops ≤ 1000000) (T U : ByteArray) (hT : T.size ≤ 1000000) (hU : U.size ≤ 1000000) (he : dk.rename (toL T) (toL U) = (E, dk')) :
    Calls Try.prog 43 #[.pointer (some ⟨b, 0, none⟩), .string T, .string U] w fun e w' => e = .returned (.int .i64 E) ∧ RAt w' (fun j => F j ∨ w.heap.size ≤ j) b dk' ∧ Keep (fun j => F j ∨ j = b) w w' := by
  obtain ⟨lv, last, hd⟩ := h
  refine (rrename_any hd hok ho (Nat.le_trans hf.len (by decide)) T U hT hU).mono ?_
  rw [he]; rintro e w' ⟨h1, h2, h3⟩; exact ⟨h1, h2, h3⟩
theorem rtruncate_at (h : RAt w F b dk) (hok : dk.Ok) (hf : Fits dk) (ho : dk.ops ≤ 1000000) (T : ByteArray) (hT : T.size ≤ 1000000) (n : Int) (he : dk.truncate (toL T) n = (E, dk')) :
    Calls Try.prog 44 #[.pointer (some ⟨b, 0, none⟩), .string T, .int .i64 n] w fun e w' => e = .returned (.int .i64 E) ∧ RAt w' (fun j => F j ∨ w.heap.size ≤ j) b dk' ∧ Keep (fun j => F j ∨ j = b) w w' := by
  have hlt := h.lt
  obtain ⟨lv, last, hd⟩ := h
  refine (rtruncate_any hd hok.ord ho (Nat.le_trans hf.len (by decide)) T hT n).mono ?_
  rw [he]; rintro e w' ⟨h1, h2, h3⟩; exact ⟨h1, h2.mono (fun _ _ h => .inl h) fun h => h.elim hd.out fun h => by omega, h3⟩
theorem rremove_at (h : RAt w F b dk) (hok : dk.Ok) (hf : Fits dk) (ho : dk.ops ≤ 1000000) (T : ByteArray) (hT : T.size ≤ 1000000) (he : dk.remove (toL T) = (E, dk')) :
    Calls Try.prog 45 #[.pointer (some ⟨b, 0, none⟩), .string T] w fun e w' => e = .returned (.int .i64 E) ∧ RAt w' (fun j => F j ∨ w.heap.size ≤ j) b dk' ∧ Keep (fun j => F j ∨ j = b) w w' := by
  obtain ⟨lv, last, hd⟩ := h
  refine (rremove_any hd hok.ord ho (Nat.le_trans hf.len (by decide)) T hT).mono ?_
  rw [he]; rintro e w' ⟨h1, h2, h3⟩; exact ⟨h1, h2, h3.mono fun _ _ h => .inr h⟩
end
end Go.Proofs.Ytlfcbhagbdonhaa.Asc
