/-
  Contract: how many bytes all files have.
  Lengths within the rows' own reach.
-/
import Derived.Test.YtlfcbhagbdonhaaDkD
namespace Go.Proofs.Ytlfcbhagbdonhaa.Asc
set_option linter.unusedSimpArgs false
set_option linter.unusedVariables false
open Go Go.RowKit Go.Proofs.Ytlfcbhagbdonhaa.Pb

/-- bytes of the files that are no longer to come -/
def usedL (fs : List Fl) (left : Tx → Bool) : Nat := (fs.map fun f => if left f.name then 0 else f.b.length).sum
theorem usedL_start (fs : List Fl) (left : Tx → Bool) (h : ∀ f ∈ fs, left f.name = true) : usedL fs left = 0 := by
  unfold usedL
  induction fs with
  | nil => rfl
  | cons a fs ih => rw [List.map_cons, List.sum_cons, h a (by simp), ih fun f hf => h f (by simp [hf])]; rfl
theorem usedL_end (fs : List Fl) (left : Tx → Bool) (h : ∀ s, left s = false) : usedL fs left = usedN fs := by
  unfold usedL usedN
  congr 1
  exact List.map_congr_left fun f _ => by rw [h]; rfl
theorem usedL_le (fs : List Fl) (left : Tx → Bool) : usedL fs left ≤ usedN fs := by
  unfold usedL usedN
  induction fs with
  | nil => simp
  | cons a fs ih =>
    simp only [List.map_cons, List.sum_cons]
    split <;> omega
theorem usedL_same (fs : List Fl) (left : Tx → Bool) (s : Tx) (h : ∀ f ∈ fs, f.name ≠ s) : usedL fs (fun z => left z && z != s) = usedL fs left := by
  unfold usedL
  congr 1
  exact List.map_congr_left fun f hf => by simp [h f hf]
theorem usedL_step (fs : List Fl) (ho : Ord fs) (left : Tx → Bool) (f : Fl) (hf : look fs f.name = some f) (hl : left f.name = true) : usedL fs (fun z => left z && z != f.name) = usedL fs left + f.b.length := by
  induction fs with
  | nil => simp [look] at hf
  | cons a fs ih =>
    have h' : (∀ x ∈ names fs, a.name < x) ∧ Ord fs := List.pairwise_cons.1 ho
    by_cases e : a.name = f.name
    · have ea : a = f := by
        have := ho.look_mem (f := a) (by simp)
        rw [e, hf] at this; exact (Option.some.inj this).symm
      have hs := usedL_same fs left f.name (fun x hx e' => by
        have := h'.1 x.name (List.mem_map.2 ⟨x, hx, rfl⟩)
        rw [e', ← e] at this; exact (List.lt_irrefl _ this).elim)
      have e1 : usedL (a :: fs) (fun z => left z && z != f.name) = a.b.length + usedL fs (fun z => left z && z != f.name) := by
        unfold usedL; simp [e]
      have e2 : usedL (a :: fs) left = usedL fs left := by
        unfold usedL; simp [e, hl]
      rw [e1, e2, hs, ea]; omega
    · have hf' : look fs f.name = some f := by
        unfold look at hf ⊢
        rw [List.find?_cons, show (a.name == f.name) = false from beq_eq_false_iff_ne.2 e] at hf
        exact hf
      have := ih h'.2 hf'
      have e1 : ∀ l : Tx → Bool, usedL (a :: fs) l = (if l a.name then 0 else a.b.length) + usedL fs l := fun l => by unfold usedL; simp
      rw [e1, e1, this]
      have : (left a.name && a.name != f.name) = left a.name := by simp [e]
      rw [this]; omega

set_option maxHeartbeats 2000000 in
/-- how many bytes all files have -/
theorem used_any {w : World} {S : Nat → Prop} {d : Nat} {dk : Dk} {g : Tx → Option Nat} {tag : Nat → Option Tx} {mv : Option Nat} (h : DIn w S d dk g tag mv) (hu : usedN dk.fs ≤ 1000000000) :
    Calls Try.prog 31 #[.pointer (some ⟨d, 0, none⟩)] w fun e w' => e = .returned (.int .i64 (usedN dk.fs)) ∧ Below w.heap.size w w' := by
  refine calls_gen fun R hR => ?_
  have c1 := blk_cell h.blk 1
  simp only [dcells, List.getElem?_toArray, List.getElem?_cons_zero, List.getElem?_cons_succ] at c1
  have hlt := h.lt
  have H := Lib.hid h
  clear h
  cases mv with
  | none =>
    have hrg := run_range_nilMap (P := Try.prog) w 59 9 65 Try.underlying59
    have hnx : ∀ ty, (Instr.next (.pointer (some ⟨w.heap.size, 0, none⟩)) false ty).run Try.prog (w.alloc (.mapIter none 0 #[] 0)) = _ := fun ty => run_next_nilMap w ty 0 0 #[]
    have hz : usedN dk.fs = 0 := by rw [(H.out.nomap rfl).1]; rfl
    rw [hz] at hR
    clear hz
    go_enter Try.func31, Try.ntmps31
    go_wp2_with fail
    refine wp_loop_rounds 1 ?_
    rw [rounds_succ]
    go_wp2_with fail
    go_ret
    exact hR _ _ ⟨rfl, below_new w _⟩
  | some mb =>
    obtain ⟨w1, hrun, hra, hk1, hs1⟩ := (H.out.map mb rfl).1.range
    have HRA := Lib.hid hra; have HK1 := Lib.hid hk1; have HS1 := Lib.hid hs1
    have HMB : Hid (mb < w.heap.size ∧ mb ≠ w.heap.size) := Lib.hid (by have := (H.out.map mb rfl).1.lt; omega)
    have HGI := Lib.hid H.out.hasg
    clear hra hk1 hs1
    go_enter Try.func31, Try.ntmps31
    go_wp2_with fail
    clear hrun c1 hlt
    go_loopw [2] (fun n wr => ∃ left cnt, n = .int .i64 (usedL dk.fs left) ∧ RangeAt wr mb w.heap.size g dk.fs.length left cnt ∧ Below w.heap.size w wr ∧ (∀ s, left s = true → (g s).isSome = true)) (fun _ wr => wr.rangeLeft mb w.heap.size)
    case atStart =>
      refine ⟨_, _, ?_, HRA.out, HK1.out.below (Nat.le_refl _) (fun _ _ h => h), fun s h => h⟩
      rw [usedL_start]
      · rfl
      · intro f hf
        rw [HGI.out, H.out.ok.ord.look_mem hf]; rfl
    case round =>
      obtain ⟨left, cnt, rfl, hrg, hb, hg⟩ := hrel
      have HRG := Lib.hid hrg; have HB := Lib.hid hb; have HGL := Lib.hid hg
      have hle := usedL_le dk.fs left
      rcases hrg.next hg 0 with ⟨h0, hl, hrun⟩ | ⟨T, fb, w2, cnt2, hlT, hgT, hrun, hrg2, hlt2, hk2, hen⟩
      · have HL := Lib.hid hl
        rw [usedL_end dk.fs left hl] at hle ⊢
        clear hrg hb hg h0 hl
        go_wp2_with fail
        go_ret
        exact hR _ _ ⟨rfl, HB.out⟩
      · have hsm : (look dk.fs (toL T)).isSome = true := by rw [← HGI.out, hgT]; rfl
        obtain ⟨f, hf⟩ := Option.isSome_iff_exists.1 hsm
        obtain ⟨fb', v, hgf, hfi⟩ := H.out.gsome hf
        have hfn : f.name = toL T := (look_some hf).2
        have hfb : fb' = fb := by rw [hgT] at hgf; exact (Option.some.inj hgf).symm
        rw [hfb] at hfi
        obtain ⟨VA, vc, rfl, hvc⟩ := hfi.own.slice
        have HST : Hid (usedL dk.fs (fun z => left z && z != toL T) = usedL dk.fs left + f.b.length) := Lib.hid (by
          rw [← hfn]; exact usedL_step dk.fs H.out.ok.ord left f (by rw [hfn]; exact hf) (by rw [hfn]; exact hlT))
        have hle2 := usedL_le dk.fs (fun z => left z && z != toL T)
        rw [HST.out] at hle2
        have hkr : Keep (fun k => w.heap.size ≤ k) w w2 := (Keep.of_below hb).trans hk2 fun i _ h => by omega
        have hb2 : w2.heap[fb]? = some (.cells #[.slice VA f.b.length vc, .int .i64 f.sy] 70 (0, 0)) := hkr.blk hfi.blk (by have := hfi.lt; omega)
        have c0 := blk_cell hb2 0
        simp only [List.getElem?_toArray, List.getElem?_cons_zero] at c0
        have hltf := blk_lt hb2
        have HRG2 := Lib.hid hrg2; have HK2 := Lib.hid hk2
        have HB2 : Hid (Below w.heap.size w w2) := Lib.hid (hkr.below (Nat.le_refl _) fun i hi h => by omega)
        have HLT2 := Lib.hid hlt2
        clear hrg hb hg hrg2 hk2 hkr hb2 hfi hgf hf hgT hlT hsm hfn hfb hlt2
        go_wp2_with fail
        go_roundw
        case rel => exact ⟨_, cnt2, by rw [HST.out]; go_num, HRG2.out, HB2.out, fun s h => HGL.out s (by rw [Bool.and_eq_true] at h; exact h.1)⟩
        case measure => rw [HRG2.out.count, HRG.out.count]; exact HLT2.out
end Go.Proofs.Ytlfcbhagbdonhaa.Asc
