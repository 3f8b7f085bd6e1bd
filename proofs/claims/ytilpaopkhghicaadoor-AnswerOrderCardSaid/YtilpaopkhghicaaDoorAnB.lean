/-
  A reader of queries in memory; contracts of its methods.
  Lengths within the rows' own reach; the library's MaxLen is a number.
-/
import Derived.Test.YtilpaopkhghicaaDoorAnA
import Derived.Maps.OwnSet
import Derived.Test.YtilpaopkhghicaaDoorMore
namespace Go.Proofs.YtilpaopkhghicaaDoor.Asc
open Go Go.RowKit Go.Proofs.YtilpaopkhghicaaDoor.Pb

theorem law_str : Maps.Keyed Tryd.prog 9 := Maps.string_keyed Tryd.underlying9
/-- a map of counts -/
def MetAt (w : World) (mb : Nat) (met : List (List UInt8)) : Prop :=
  ∃ n D, w.ownsMap (H := Unit) Tryd.prog 9 (plainElem Tryd.prog 3) mb n D ∧ n ≤ met.length ∧ ∀ s : List UInt8, D.atKey (.string s) (.lit (.int .i64 0)) = .lit (.int .i64 (met.count s))
theorem MetAt.lt {w : World} {mb : Nat} {met : List (List UInt8)} (h : MetAt w mb met) : mb < w.heap.size := by
  obtain ⟨n, D, h, _⟩ := h; exact h.lt
theorem MetAt.move {w w' : World} {mb : Nat} {met : List (List UInt8)} (h : MetAt w mb met) (hm : w'.heap[mb]? = w.heap[mb]?) : MetAt w' mb met := by
  obtain ⟨n, D, ⟨es, clock, hb, F, hs, hD⟩, h2, h3⟩ := h
  exact ⟨n, D, ⟨es, clock, hm.trans hb, F, hs, hD⟩, h2, h3⟩
theorem MetAt.keep {w w' : World} {G : Nat → Prop} {mb : Nat} {met : List (List UInt8)} (h : MetAt w mb met) (hk : Keep G w w') (hG : ¬ G mb) : MetAt w' mb met := h.move (hk.block mb h.lt hG)

def rcells (st : QS) (L F : Value) (mb : Nat) : List Value :=
  [L, .bool st.bad, .string (ofL st.q.doc), .string (ofL st.q.url), .string (ofL st.q.dest), .string (ofL st.q.meth), .bool st.q.cors, .bool st.q.creds, .int .i64 st.q.redir, F, .map (some mb)]
structure RdIn (w : World) (S : Nat → Prop) (b : Nat) (st : QS) (L F : Value) (mb : Nat) : Prop where
  blk : w.heap[b]? = some (.cells (rcells st L F mb).toArray 61 (0, 0))
  hds : Own fld 42 w (fun k => F.ownBlock = some k) st.q.hds F
  map : MetAt w mb st.met
  inF : ∀ k, F.ownBlock = some k → S k
  inM : S mb
  out : ¬ S b
  fm : F.ownBlock ≠ some mb
/-- a reader lies at b; the lines that are left are L; what is its own lies in blocks of S -/
def RdAt (w : World) (S : Nat → Prop) (b : Nat) (st : QS) (L : Value) : Prop := ∃ F mb, RdIn w S b st L F mb
theorem own_lt2 {α : Type} {d : Rp α} {e : TypeId} {w : World} {F : Nat → Prop} {xs : List α} {v : Value} (h : Own d e w F xs v) {k : Nat} (hk : v.ownBlock = some k) : k < w.heap.size := by
  obtain ⟨cells, h1, _⟩ := h
  exact (h1.lt k hk).2
theorem RdIn.lt {w : World} {S : Nat → Prop} {b : Nat} {st : QS} {L F : Value} {mb : Nat} (h : RdIn w S b st L F mb) : b < w.heap.size := blk_lt h.blk
theorem RdIn.mono {w : World} {S S' : Nat → Prop} {b : Nat} {st : QS} {L F : Value} {mb : Nat} (h : RdIn w S b st L F mb) (hS : ∀ k, k < w.heap.size → S k → S' k) (ho : ¬ S' b) : RdIn w S' b st L F mb :=
  ⟨h.blk, h.hds, h.map, fun k hk => hS k (own_lt2 h.hds hk) (h.inF k hk), hS mb h.map.lt h.inM, ho, h.fm⟩
theorem RdIn.keep {w w' : World} {S G : Nat → Prop} {b : Nat} {st : QS} {L F : Value} {mb : Nat} (h : RdIn w S b st L F mb) (hk : Keep G w w') (hG : ∀ k, k < w.heap.size → S k ∨ k = b → ¬ G k) : RdIn w' S b st L F mb :=
  ⟨hk.blk h.blk (hG b h.lt (.inr rfl)), h.hds.move fun k hF hl => hk.block k hl (hG k hl (.inl (h.inF k hF))), h.map.keep hk (hG mb h.map.lt (.inl h.inM)), h.inF, h.inM, h.out, h.fm⟩
theorem RdIn.below {w w' : World} {S : Nat → Prop} {b : Nat} {st : QS} {L F : Value} {mb : Nat} (h : RdIn w S b st L F mb) (hk : Below w.heap.size w w') : RdIn w' S b st L F mb :=
  h.keep (G := fun k => w.heap.size ≤ k) (Keep.of_below hk) fun k hl _ => by omega
/-- cells of the reader itself alone -/
theorem RdIn.scal {w w' : World} {S : Nat → Prop} {b : Nat} {st st' : QS} {L L' F : Value} {mb : Nat} (h : RdIn w S b st L F mb) (hk : Keep (fun k => k = b) w w') (hb : w'.heap[b]? = some (.cells (rcells st' L' F mb).toArray 61 (0, 0)))
    (e1 : st'.q.hds = st.q.hds) (e2 : st'.met = st.met) : RdIn w' S b st' L' F mb :=
  ⟨hb, e1 ▸ h.hds.keep hk (fun k hF hG => h.out (hG ▸ h.inF k hF)), e2 ▸ h.map.keep hk (fun e => h.out (e ▸ h.inM)), h.inF, h.inM, h.out, h.fm⟩
theorem RdAt.lt {w : World} {S : Nat → Prop} {b : Nat} {st : QS} {L : Value} (h : RdAt w S b st L) : b < w.heap.size := by
  obtain ⟨F, mb, h⟩ := h; exact h.lt
theorem RdAt.out {w : World} {S : Nat → Prop} {b : Nat} {st : QS} {L : Value} (h : RdAt w S b st L) : ¬ S b := by
  obtain ⟨F, mb, h⟩ := h; exact h.out
theorem RdAt.below {w w' : World} {S : Nat → Prop} {b : Nat} {st : QS} {L : Value} (h : RdAt w S b st L) (hk : Below w.heap.size w w') : RdAt w' S b st L := by
  obtain ⟨F, mb, h⟩ := h; exact ⟨F, mb, h.below hk⟩
theorem RdAt.mono {w : World} {S S' : Nat → Prop} {b : Nat} {st : QS} {L : Value} (h : RdAt w S b st L) (hS : ∀ k, k < w.heap.size → S k → S' k) (ho : ¬ S' b) : RdAt w S' b st L := by
  obtain ⟨F, mb, h⟩ := h; exact ⟨F, mb, h.mono hS ho⟩

set_option maxHeartbeats 1000000 in
/-- a flag: which of two -/
theorem flag_any (o : Nat) (ho : o = 6 ∨ o = 7) (w : World) (S : Nat → Prop) (b : Nat) (st : QS) (L : Value) (h : RdAt w S b st L) (ok : Bool) :
    Calls Tryd.prog 40 #[.pointer (some ⟨b, 0, none⟩), .pointer (some ⟨b, o, none⟩), .bool ok] w fun e w' => e = .returned (.tuple #[]) ∧
      RdAt w' S b { st with q := (if o = 6 then { st.q with cors := true } else { st.q with creds := true }), bad := st.bad || ok } L ∧ Keep (fun k => k = b) w w' := by
  refine calls_gen fun R hR => ?_
  obtain ⟨F, mb, h⟩ := h
  have c1 := blk_cell h.blk 1
  have c6 := blk_cell h.blk 6
  have c7 := blk_cell h.blk 7
  have f1 := blk_free h.blk 1
  have f6 := blk_free h.blk 6
  have f7 := blk_free h.blk 7
  simp only [rcells, List.getElem?_toArray, List.getElem?_cons_zero, List.getElem?_cons_succ] at c1 c6 c7
  have hltb := h.lt
  have H := Lib.hid h
  clear h
  go_enter Tryd.func40, Tryd.ntmps40
  obtain ⟨bd, hbd⟩ : ∃ x, st.bad = x := ⟨_, rfl⟩
  have HBD := Lib.hid hbd
  rw [hbd] at c1
  clear hbd
  rcases ho with rfl | rfl
  · have hfin : ∀ x, x = (bd || ok) → Pb.Fin (R (.returned (.tuple #[])) ((w.setCell ⟨b, 1, none⟩ (.bool x)).setCell ⟨b, 6, none⟩ (.bool true))) := fun x hx => by
      subst hx
      have k2 := (((Keep.refl (fun k => k = b) w).set (p := ⟨b, 1, none⟩) rfl (.bool (bd || ok))).set (p := ⟨b, 6, none⟩) rfl (.bool true))
      exact hR _ _ ⟨rfl, ⟨F, mb, by rw [HBD.out]; exact H.out.scal k2 (blk_set (blk_set H.out.blk 1 (.bool (bd || ok))) 6 (.bool true)) rfl rfl⟩, k2⟩
    have HF := Lib.hid hfin
    clear hfin
    cases bd
    · go_wp2_with fail
      exact bodyPost_end (v := .tuple #[]) (by simp [results, Tryd.results40]) rfl (HF.out _ (by simp))
    · go_wp2_with fail
      exact bodyPost_end (v := .tuple #[]) (by simp [results, Tryd.results40]) rfl (HF.out _ (by simp))
  · have hfin : ∀ x, x = (bd || ok) → Pb.Fin (R (.returned (.tuple #[])) ((w.setCell ⟨b, 1, none⟩ (.bool x)).setCell ⟨b, 7, none⟩ (.bool true))) := fun x hx => by
      subst hx
      have k2 := (((Keep.refl (fun k => k = b) w).set (p := ⟨b, 1, none⟩) rfl (.bool (bd || ok))).set (p := ⟨b, 7, none⟩) rfl (.bool true))
      exact hR _ _ ⟨rfl, ⟨F, mb, by rw [HBD.out]; exact H.out.scal k2 (blk_set (blk_set H.out.blk 1 (.bool (bd || ok))) 7 (.bool true)) rfl rfl⟩, k2⟩
    have HF := Lib.hid hfin
    clear hfin
    cases bd
    · go_wp2_with fail
      exact bodyPost_end (v := .tuple #[]) (by simp [results, Tryd.results40]) rfl (HF.out _ (by simp))
    · go_wp2_with fail
      exact bodyPost_end (v := .tuple #[]) (by simp [results, Tryd.results40]) rfl (HF.out _ (by simp))
end Go.Proofs.YtilpaopkhghicaaDoor.Asc
