/-
  Contracts of the reference's Blanks, Split, Number, Decimal, Trim.
  Texts of at most a million bytes.
-/
import Derived.Test.YtmidfabneioiiaaDoorAscB
import Derived.Deep.DeepCutAuto
import Derived.Deep.CutBlock
namespace Go.Proofs.YtmidfabneioiiaaDoor.Asc
open Go Go.RowKit Go.Proofs.YtmidfabneioiiaaDoor.Pb

theorem info9 : (Tryd.prog.info? 9).map (fun i => (i.zero, i.size, i.bytes)) = some (some (.string ByteArray.empty), 1, 16) := by kernel_rfl

def fromV : Option Nat → Int
  | none => -1
  | some f => f
theorem fromV_none : fromV none = -1 := rfl
theorem fromV_some (f : Nat) : fromV (some f) = (f : Int) := rfl
theorem blSt_len (s : List UInt8) (k : Nat) : (blSt s k).1.length ≤ k ∧ ∀ f, (blSt s k).2 = some f → f < k := by
  induction k with
  | zero => simp [blSt]
  | succ k ih =>
    obtain ⟨h1, h2⟩ := ih
    simp only [blSt]
    cases h : (blSt s k).2 with
    | none =>
      simp only
      split
      · exact ⟨by omega, fun f hf => by rw [h] at hf; cases hf⟩
      · exact ⟨by simp; omega, fun f hf => by simp at hf; omega⟩
    | some f =>
      simp only
      split
      · refine ⟨by simp; omega, fun g hg => by simp at hg⟩
      · refine ⟨by omega, fun g hg => ?_⟩
        have := h2 g hg; omega

def blankAt (s : List UInt8) (k : Nat) : Bool := (s[k]?.map isBlank).getD true
theorem blankAt_end (s : ByteArray) : blankAt (toL s) s.size = true := by
  unfold blankAt; rw [List.getElem?_eq_none (by rw [toL_len]; exact Nat.le_refl _)]; rfl
theorem blankAt_lt (s : ByteArray) (k : Nat) (h : k < s.size) : blankAt (toL s) k = isBlank s[k] := by
  unfold blankAt; rw [getD_toL s k h]; rfl
theorem blSt_succ (s : List UInt8) (k : Nat) : blSt s (k + 1) = (match (blSt s k).2 with
  | none => if blankAt s k then blSt s k else ((blSt s k).1, some k)
  | some f => if blankAt s k then ((blSt s k).1 ++ [cut s f k], none) else blSt s k) := rfl

set_option maxHeartbeats 1000000 in
/-- parapetref1.Blanks -/
theorem rblanks_any (s : ByteArray) (w : World) (hs : s.size ≤ 1000000) :
    Calls Tryd.prog 15 #[.string s] w fun e w' => ∃ v, e = .returned v ∧ Own Rp.str 9 w' (w.heap.size ≤ ·) (blanks (toL s)) v ∧ Below w.heap.size w w' := by
  refine calls_gen fun R hR => ?_
  go_enter Tryd.func15, Tryd.ntmps15
  go_wp2
  go_loopg [3, 4, 5, 6] (s.size + 1) (fun g v f i _ wr => ∃ k : Nat, k + g = s.size + 1 ∧ i = .int .i64 k ∧ f = .int .i64 (fromV (blSt (toL s) k).2) ∧ Own Rp.str 9 wr (w.heap.size ≤ ·) (blSt (toL s) k).1 v ∧ Below w.heap.size w wr)
  case atStart => exact ⟨0, by omega, rfl, rfl, Own.nil _ _ _ _, Below.refl _ _⟩
  case round =>
    obtain ⟨k, hg, rfl, rfl, hown, hb⟩ := hrel
    have hbs := hb.size
    obtain ⟨hll, hff⟩ := blSt_len (toL s) k
    have HF := Lib.hid hff; clear hff
    by_cases hlt : k ≤ s.size
    · have hl1 : (k : Int) ≤ s.size := by omega
      go_upto_region 6 with fail
      go_cut [6] (fun v wc => v = .bool (blankAt (toL s) k) ∧ wc = wr)
      case first =>
        by_cases he : k = s.size
        · have hb' := Lib.hid (blankAt_end s)
          subst he
          go_wp2
          go_meet
          exact ⟨by rw [hb'.out], rfl⟩
        · have hlt' : k < s.size := by omega
          have hb' := Lib.hid (blankAt_lt s k hlt')
          have h0 : ((k : Int) == (s.size : Int)) = false := by simpa using (by omega : ¬ (k : Int) = s.size)
          clear he
          go_wp2
          all_goals
            go_meet
            refine ⟨?_, rfl⟩
            rw [hb'.out]
            unfold isBlank
            congr 1
            first | (simp; omega) | (rw [Bool.eq_iff_iff]; simp; omega)
      case rest =>
        obtain ⟨rfl, rfl⟩ := hcut
        have HS := Lib.hid (blSt_succ (toL s) k)
        obtain ⟨st, hst⟩ : ∃ st, blSt (toL s) k = st := ⟨_, rfl⟩
        have HST := Lib.hid hst
        rw [hst] at HS hown hll HF ⊢
        clear hst
        obtain ⟨l, o⟩ := st
        obtain ⟨bl, hbl⟩ : ∃ bl, blankAt (toL s) k = bl := ⟨_, rfl⟩
        rw [hbl] at HS ⊢
        clear hbl
        cases o with
        | none =>
          rw [fromV_none]
          cases bl
          · have HS' : blSt (toL s) (k + 1) = (l, some k) := HS.out
            have HS'' := Lib.hid HS'; clear HS' HS
            go_wp2
            go_roundg (gk - 1)
            case measure => omega
            case rel => exact ⟨k + 1, by omega, by go_num, by rw [HS''.out]; rfl, by rw [HS''.out]; exact hown, hb⟩
          · have HS' : blSt (toL s) (k + 1) = (l, none) := HS.out
            have HS'' := Lib.hid HS'; clear HS' HS
            go_wp2
            go_roundg (gk - 1)
            case measure => omega
            case rel => exact ⟨k + 1, by omega, by go_num, by rw [HS''.out]; rfl, by rw [HS''.out]; exact hown, hb⟩
        | some f =>
          rw [fromV_some]
          have hfk : f ≤ k := Nat.le_of_lt (HF.out f rfl)
          cases bl
          · have HS' : blSt (toL s) (k + 1) = (l, some f) := HS.out
            have HS'' := Lib.hid HS'; clear HS' HS
            go_wp2
            go_roundg (gk - 1)
            case measure => omega
            case rel => exact ⟨k + 1, by omega, by go_num, by rw [HS''.out]; rfl, by rw [HS''.out]; exact hown, hb⟩
          · have HS' : blSt (toL s) (k + 1) = (l ++ [cut (toL s) f k], none) := HS.out
            have HS'' := Lib.hid HS'; clear HS' HS
            have hex := Lib.hid (extract_cut s f k)
            simp only at hll hown
            go_wp2_with (with_reducible (first | refine stop_append ?_))
            refine ⟨wp_append1_flat (y := cut (toL s) f k) Tryd.underlying24 info9 rfl hown rfl rfl (by rw [← hex.out]) (by omega) (by decide) hbs ?_⟩
            intro v1 w1 ho1 hb1 _ _
            have hb2 := hb.trans hb1
            go_wp2
            go_roundg (gk - 1)
            case measure => omega
            case rel => exact ⟨k + 1, by omega, by go_num, by rw [HS''.out]; rfl, by rw [HS''.out]; exact ho1, hb2⟩
    · obtain rfl : k = s.size + 1 := by omega
      go_wp2
      go_ret
      exact hR _ _ ⟨_, rfl, by unfold blanks; rw [toL_len]; exact hown, hb⟩
end Go.Proofs.YtmidfabneioiiaaDoor.Asc
