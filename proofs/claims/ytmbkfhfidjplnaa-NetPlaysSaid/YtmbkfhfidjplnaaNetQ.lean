/-
  Two nets of the call's own, the program's and the reference's: what each call leaves of both.
  Lengths within the rows' own reach.
-/
import Derived.Test.YtmbkfhfidjplnaaNetP
namespace Go.Proofs.Ytmbkfhfidjplnaa.Nt
open Go Go.RowKit Go.Proofs.Ytmbkfhfidjplnaa.Pb

abbrev tN : TypeId := 29
abbrev tM : TypeId := 48
def small (l : List Pk) : Prop := l.length ≤ 1000000 ∧ ∀ x ∈ l, x.2.2.length ≤ 140737488351232

/-- the program's net at block bn holds ps, the reference's at bm holds qs; both lie from B on, apart from each other and from X -/
def Two (X : Nat → Prop) (B bn bm : Nat) (w : World) (ps qs : List Pk) : Prop :=
  ∃ F G, NetAt tN w F bn ps ∧ NetAt tM w G bm qs ∧ (∀ k, F k → B ≤ k ∧ k < w.heap.size ∧ ¬ G k ∧ ¬ X k) ∧ (∀ k, G k → B ≤ k ∧ k < w.heap.size ∧ ¬ X k) ∧ B ≤ w.heap.size ∧ (∀ k, X k → k < w.heap.size)

section
variable {X : Nat → Prop} {B bn bm : Nat} {w : World} {ps qs : List Pk}
theorem Two.below (h : Two X B bn bm w ps qs) {w' : World} (hb : Below w.heap.size w w') : Two X B bn bm w' ps qs := by
  obtain ⟨F, G, h1, h2, h3, h4, h5, h6⟩ := h
  have hs := hb.size
  exact ⟨F, G, h1.below hb, h2.below hb, fun k hk => ⟨(h3 k hk).1, by have := (h3 k hk).2.1; omega, (h3 k hk).2.2⟩, fun k hk => ⟨(h4 k hk).1, by have := (h4 k hk).2.1; omega, (h4 k hk).2.2⟩, by omega, fun k hk => by have := h6 k hk; omega⟩
/-- what is new and no net's -/
theorem Two.more (h : Two X B bn bm w ps qs) {w' : World} (hb : Below w.heap.size w w') : Two (fun k => X k ∨ (w.heap.size ≤ k ∧ k < w'.heap.size)) B bn bm w' ps qs := by
  obtain ⟨F, G, h1, h2, h3, h4, h5, h6⟩ := h
  have hs := hb.size
  exact ⟨F, G, h1.below hb, h2.below hb, fun k hk => ⟨(h3 k hk).1, by have := (h3 k hk).2.1; omega, (h3 k hk).2.2.1, fun hx => hx.elim (h3 k hk).2.2.2 (fun h => by have := (h3 k hk).2.1; omega)⟩, fun k hk => ⟨(h4 k hk).1, by have := (h4 k hk).2.1; omega, fun hx => hx.elim (h4 k hk).2.2 (fun h => by have := (h4 k hk).2.1; omega)⟩, by omega, fun k hk => hk.elim (fun hk => by have := h6 k hk; omega) (fun h => h.2)⟩
theorem Two.less (h : Two X B bn bm w ps qs) {Y : Nat → Prop} (hY : ∀ k, Y k → X k) : Two Y B bn bm w ps qs := by
  obtain ⟨F, G, h1, h2, h3, h4, h5, h6⟩ := h
  exact ⟨F, G, h1, h2, fun k hk => ⟨(h3 k hk).1, (h3 k hk).2.1, (h3 k hk).2.2.1, fun hy => (h3 k hk).2.2.2 (hY k hy)⟩, fun k hk => ⟨(h4 k hk).1, (h4 k hk).2.1, fun hy => (h4 k hk).2.2 (hY k hy)⟩, h5, fun k hk => h6 k (hY k hk)⟩
/-- what a call on one of them leaves -/
structure Aft (X : Nat → Prop) (B bn bm : Nat) (w w' : World) (ps qs : List Pk) : Prop where
  bel : Below B w w'
  two : Two X B bn bm w' ps qs
  apart : ∀ k, X k → w'.heap[k]? = w.heap[k]?
  size : w.heap.size ≤ w'.heap.size
/-- the program's net turns -/
theorem two_n {F G : Nat → Prop} {w' : World} {ps' : List Pk} (h2 : NetAt tM w G bm qs) (h3 : ∀ k, F k → B ≤ k ∧ k < w.heap.size ∧ ¬ G k ∧ ¬ X k) (h4 : ∀ k, G k → B ≤ k ∧ k < w.heap.size ∧ ¬ X k) (h5 : B ≤ w.heap.size ∧ ∀ k, X k → k < w.heap.size) (hk : Keep F w w') (hn : NetAt tN w' (fun k => F k ∨ (w.heap.size ≤ k ∧ k < w'.heap.size)) bn ps') :
    Aft X B bn bm w w' ps' qs := by
  have hs := hk.size
  refine ⟨hk.below h5.1 fun i hi h => by have := (h3 i h).1; omega, ⟨_, G, hn, h2.keep hk (fun k hg hf => (h3 k hf).2.2.1 hg), fun k h => ?_, fun k hk => ⟨(h4 k hk).1, by have := (h4 k hk).2.1; omega, (h4 k hk).2.2⟩, by omega, fun k hk => by have := h5.2 k hk; omega⟩, fun k hx => hk.block k (h5.2 k hx) (fun hf => (h3 k hf).2.2.2 hx), hs⟩
  rcases h with h | h
  · exact ⟨(h3 k h).1, by have := (h3 k h).2.1; omega, (h3 k h).2.2⟩
  · exact ⟨by omega, h.2, fun hg => by have := (h4 k hg).2.1; omega, fun hx => by have := h5.2 k hx; omega⟩
/-- the reference's net turns -/
theorem two_m {F G : Nat → Prop} {w' : World} {qs' : List Pk} (h1 : NetAt tN w F bn ps) (h3 : ∀ k, F k → B ≤ k ∧ k < w.heap.size ∧ ¬ G k ∧ ¬ X k) (h4 : ∀ k, G k → B ≤ k ∧ k < w.heap.size ∧ ¬ X k) (h5 : B ≤ w.heap.size ∧ ∀ k, X k → k < w.heap.size) (hk : Keep G w w') (hn : NetAt tM w' (fun k => G k ∨ (w.heap.size ≤ k ∧ k < w'.heap.size)) bm qs') :
    Aft X B bn bm w w' ps qs' := by
  have hs := hk.size
  refine ⟨hk.below h5.1 fun i hi h => by have := (h4 i h).1; omega, ⟨F, _, h1.keep hk (fun k hf hg => (h3 k hf).2.2.1 hg), hn, fun k h => ⟨(h3 k h).1, by have := (h3 k h).2.1; omega, ?_, (h3 k h).2.2.2⟩, fun k h => ?_, by omega, fun k hk => by have := h5.2 k hk; omega⟩, fun k hx => hk.block k (h5.2 k hx) (fun hf => (h4 k hf).2.2 hx), hs⟩
  · rintro (h6 | h6)
    · exact (h3 k h).2.2.1 h6
    · have := (h3 k h).2.1; omega
  · rcases h with h | h
    · exact ⟨(h4 k h).1, by have := (h4 k h).2.1; omega, (h4 k h).2.2⟩
    · exact ⟨by omega, h.2, fun hx => by have := h5.2 k hx; omega⟩

theorem Two.nsend (h : Two X B bn bm w ps qs) (xs : List Pk) (v : Value) (H : Nat → Prop) (hv : View pkt w H xs v) (hH : ∀ k, H k → k < B) (hp : small ps) (hx : small xs) :
    Calls Try.prog 9 #[.pointer (some ⟨bn, 0, none⟩), v] w fun e w' => e = .returned (.int .i64 (((sends ps xs).length - ps.length : Nat) : Int)) ∧ Aft X B bn bm w w' (sends ps xs) qs := by
  obtain ⟨F, G, h1, h2, h3, h4, h5, h6⟩ := h
  refine (send_any tN w F H bn ps xs v h1 hv (fun k hk hh => by have := (h3 k hk).1; have := hH k hh; omega) hp.1 hx.1 hx.2).mono ?_
  rintro e w' ⟨rfl, hk, hn⟩
  exact ⟨rfl, two_n h2 h3 h4 ⟨h5, h6⟩ hk hn⟩
theorem Two.msend (h : Two X B bn bm w ps qs) (xs : List Pk) (v : Value) (H : Nat → Prop) (hv : View pkt w H xs v) (hH : ∀ k, H k → k < B) (hp : small qs) (hx : small xs) :
    Calls Try.prog 17 #[.pointer (some ⟨bm, 0, none⟩), v] w fun e w' => e = .returned (.int .i64 (((sends qs xs).length - qs.length : Nat) : Int)) ∧ Aft X B bn bm w w' ps (sends qs xs) := by
  obtain ⟨F, G, h1, h2, h3, h4, h5, h6⟩ := h
  refine (rsend_any tM w G H bm qs xs v h2 hv (fun k hk hh => by have := (h4 k hk).1; have := hH k hh; omega) hp.1 hx.1 hx.2).mono ?_
  rintro e w' ⟨rfl, hk, hn⟩
  exact ⟨rfl, two_m h1 h3 h4 ⟨h5, h6⟩ hk hn⟩
theorem Two.ndeliver (h : Two X B bn bm w ps qs) (k : Int) (hp : small ps) :
    Calls Try.prog 11 #[.pointer (some ⟨bn, 0, none⟩), .int .i64 k] w fun e w' => ∃ v ok, e = .returned (.tuple #[v, .bool ok]) ∧ Told w w' (peek ps k) v ok ∧ Aft X B bn bm w w' (gone ps k) qs ∧ bm < w.heap.size := by
  obtain ⟨F, G, h1, h2, h3, h4, h5, h6⟩ := h
  have hbm : bm < w.heap.size := by obtain ⟨_, _, h, _⟩ := h2; exact (h4 _ h).2.1
  refine (deliver_any tN w F bn ps h1 k hp.1 hp.2).mono ?_
  rintro e w' ⟨v, ok, rfl, ht, hk, hn⟩
  have a1 := two_n h2 h3 h4 ⟨h5, h6⟩ hk (hn.mono fun _ h => .inl h)
  exact ⟨v, ok, rfl, ht, a1, hbm⟩
theorem Two.mdeliver (h : Two X B bn bm w ps qs) (k : Int) (hp : small qs) :
    Calls Try.prog 18 #[.pointer (some ⟨bm, 0, none⟩), .int .i64 k] w fun e w' => ∃ v ok, e = .returned (.tuple #[v, .bool ok]) ∧ Lent w' (fun i => i < w.heap.size) (peek qs k) v ok ∧ Aft X B bn bm w w' ps (gone qs k) ∧ Keep (fun i => i = bm) w w' := by
  obtain ⟨F, G, h1, h2, h3, h4, h5, h6⟩ := h
  have hg : G bm := by obtain ⟨_, _, h, _⟩ := h2; exact h
  refine (rdeliver_any tM w G bm qs h2 k hp.1).mono ?_
  rintro e w' ⟨v, ok, rfl, ⟨ho, u, hv, hu⟩, hk, hn⟩
  have a1 := two_m h1 h3 h4 ⟨h5, h6⟩ (hk.mono fun i _ e => by rw [e]; exact hg) hn
  exact ⟨v, ok, rfl, ⟨ho, u, hv, hu.mono fun i hi => (h4 i hi.1).2.1⟩, a1, hk⟩
theorem Two.npeek (h : Two X B bn bm w ps qs) (k : Int) (hp : small ps) :
    Calls Try.prog 16 #[.pointer (some ⟨bn, 0, none⟩), .int .i64 k] w fun e w' => ∃ v ok, e = .returned (.tuple #[v, .bool ok]) ∧ Told w w' (peek ps k) v ok ∧ Below w.heap.size w w' ∧ Two X B bn bm w' ps qs := by
  have H := h
  obtain ⟨F, G, h1, h2, h3, h4, h5, h6⟩ := h
  refine (peek_any tN w F bn ps h1 k hp.2).mono ?_
  rintro e w' ⟨v, ok, rfl, ht, hb⟩
  exact ⟨v, ok, rfl, ht, hb, H.below hb⟩
theorem Two.mpeek (h : Two X B bn bm w ps qs) (k : Int) :
    Calls Try.prog 23 #[.pointer (some ⟨bm, 0, none⟩), .int .i64 k] w fun e w' => ∃ v ok, e = .returned (.tuple #[v, .bool ok]) ∧ Lent w' (fun i => i < w.heap.size) (peek qs k) v ok ∧ Below w.heap.size w w' ∧ Two X B bn bm w' ps qs := by
  have H := h
  obtain ⟨F, G, h1, h2, h3, h4, h5, h6⟩ := h
  refine (rpeek_any tM w G bm qs h2 k).mono ?_
  rintro e w' ⟨v, ok, rfl, ⟨ho, u, hv, hu⟩, hb⟩
  exact ⟨v, ok, rfl, ⟨ho, u, hv, hu.mono fun i hi => (h4 i hi.1).2.1⟩, hb, H.below hb⟩
theorem Two.ndrop (h : Two X B bn bm w ps qs) (k : Int) (hp : small ps) :
    Calls Try.prog 20 #[.pointer (some ⟨bn, 0, none⟩), .int .i64 k] w fun e w' => e = .returned (.bool (peek ps k).isSome) ∧ Aft X B bn bm w w' (gone ps k) qs := by
  obtain ⟨F, G, h1, h2, h3, h4, h5, h6⟩ := h
  refine (drop_any tN w F bn ps h1 k hp.1 hp.2).mono ?_
  rintro e w' ⟨rfl, hk, hn⟩
  exact ⟨rfl, two_n h2 h3 h4 ⟨h5, h6⟩ hk (hn.mono fun _ h => .inl h)⟩
theorem Two.ntwice (h : Two X B bn bm w ps qs) (k : Int) (hp : small ps) :
    Calls Try.prog 14 #[.pointer (some ⟨bn, 0, none⟩), .int .i64 k] w fun e w' => e = .returned (.bool (decide ((twice ps k).length = ps.length + 1))) ∧ Aft X B bn bm w w' (twice ps k) qs := by
  obtain ⟨F, G, h1, h2, h3, h4, h5, h6⟩ := h
  refine (twice_any tN w F bn ps h1 k hp.1 hp.2).mono ?_
  rintro e w' ⟨rfl, hk, hn⟩
  exact ⟨rfl, two_n h2 h3 h4 ⟨h5, h6⟩ hk hn⟩
theorem Two.mtwice (h : Two X B bn bm w ps qs) (k : Int) (hp : small qs) :
    Calls Try.prog 21 #[.pointer (some ⟨bm, 0, none⟩), .int .i64 k] w fun e w' => e = .returned (.bool (decide ((twice qs k).length = qs.length + 1))) ∧ Aft X B bn bm w w' ps (twice qs k) := by
  obtain ⟨F, G, h1, h2, h3, h4, h5, h6⟩ := h
  refine (rtwice_any tM w G bm qs h2 k hp.1 hp.2).mono ?_
  rintro e w' ⟨rfl, hk, hn⟩
  exact ⟨rfl, two_m h1 h3 h4 ⟨h5, h6⟩ hk hn⟩
theorem Two.nclear (h : Two X B bn bm w ps qs) (k : Int) (hp : small ps) :
    Calls Try.prog 15 #[.pointer (some ⟨bn, 0, none⟩), .int .i64 k] w fun e w' => e = .returned (.int .i64 ((ps.length : Int) - ((clears ps k).length : Int))) ∧ Aft X B bn bm w w' (clears ps k) qs := by
  obtain ⟨F, G, h1, h2, h3, h4, h5, h6⟩ := h
  refine (clear_any tN w F bn ps h1 k hp.1).mono ?_
  rintro e w' ⟨rfl, hk, hn⟩
  exact ⟨rfl, two_n h2 h3 h4 ⟨h5, h6⟩ hk (hn.mono fun _ h => .inl h)⟩
theorem Two.mclear (h : Two X B bn bm w ps qs) (k : Int) (hp : small qs) :
    Calls Try.prog 22 #[.pointer (some ⟨bm, 0, none⟩), .int .i64 k] w fun e w' => e = .returned (.int .i64 ((qs.length : Int) - ((clears qs k).length : Int))) ∧ Aft X B bn bm w w' ps (clears qs k) := by
  obtain ⟨F, G, h1, h2, h3, h4, h5, h6⟩ := h
  refine (rclear_any tM w G bm qs h2 k hp.1).mono ?_
  rintro e w' ⟨rfl, hk, hn⟩
  exact ⟨rfl, two_m h1 h3 h4 ⟨h5, h6⟩ hk hn⟩
theorem Two.nlen (h : Two X B bn bm w ps qs) :
    Calls Try.prog 12 #[.pointer (some ⟨bn, 0, none⟩)] w fun e w' => e = .returned (.int .i64 ps.length) ∧ w = w' := by
  obtain ⟨F, G, h1, _⟩ := h
  exact len_any tN w F bn ps h1
/-- the reference's row, as it is read -/
theorem Two.row (h : Two X B bn bm w ps qs) : ∃ A c, w.cell? ⟨bm, 0, none⟩ = some (.slice A qs.length c) ∧ qs.length ≤ c ∧ bm < w.heap.size ∧ (∀ k, k < qs.length → ∃ g, A = some ⟨g, 0, none⟩ ∧ g < w.heap.size ∧ ∀ x, qs[k]? = some x → ∃ B' c', View Rp.u8 w (fun _ => True) x.2.2 (.slice B' x.2.2.length c') ∧
      w.cell? ⟨g, k * 3, none⟩ = some (.int .i64 x.1) ∧ w.cell? ⟨g, k * 3 + 1, none⟩ = some (.int .i64 x.2.1) ∧ w.cell? ⟨g, k * 3 + 2, none⟩ = some (.slice B' x.2.2.length c')) := by
  obtain ⟨F, G, _, ⟨v, hb, hg, ho⟩, _⟩ := h
  obtain ⟨A, c, rfl, hc, hget⟩ := pkts_get ho
  refine ⟨A, c, by rw [blk_cell hb]; rfl, hc, blk_lt hb, fun k hk => ?_⟩
  obtain ⟨g, e, hgl, hx⟩ := hget k hk
  refine ⟨g, e, hgl, fun x he => ?_⟩
  obtain ⟨B', c', hv, h1⟩ := hx x he
  exact ⟨B', c', hv.mono fun _ _ => trivial, h1⟩
end

/-! ### what stays small -/
theorem small_sends {ps xs : List Pk} (h : small ps) (k : small xs) : small (sends ps xs) :=
  ⟨by have := sends_len xs ps; have := h.1; omega, fun x hx => (sends_mem xs ps x hx).elim (h.2 x) (k.2 x)⟩
theorem small_gone {ps : List Pk} (h : small ps) (k : Int) : small (gone ps k) := by
  unfold gone
  split
  · exact h
  · refine ⟨by have := h.1; simp; omega, fun x hx => ?_⟩
    rcases List.mem_append.1 hx with hx | hx
    · exact h.2 x (List.mem_of_mem_take hx)
    · exact h.2 x (List.mem_of_mem_drop hx)
theorem small_twice {ps : List Pk} (h : small ps) (k : Int) : small (twice ps k) := by
  unfold twice
  cases hp : peek ps k with
  | none => exact h
  | some y =>
    have hm : y ∈ ps := by
      unfold peek at hp; split at hp
      · cases hp
      · exact List.mem_of_getElem? hp
    show small (put ps y)
    exact ⟨by have := put_len ps y; have := h.1; omega, fun x hx => (put_mem ps y x hx).elim (h.2 x) (fun e => e ▸ h.2 y hm)⟩
theorem small_clears {ps : List Pk} (h : small ps) (k : Int) : small (clears ps k) :=
  ⟨by have := clears_len ps k; have := h.1; omega, fun x hx => h.2 x (List.mem_filter.1 hx).1⟩
end Go.Proofs.Ytmbkfhfidjplnaa.Nt
