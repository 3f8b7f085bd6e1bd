/-
  Contract: a reader's line.
  Lengths within the rows' own reach; the library's MaxLen is a number.
-/
import Derived.Test.YtilpaopkhghicaaDoorAnD
import Derived.Test.YtilpaopkhghicaaDoorAscH
import Derived.Maps.Own
import Derived.Maps.Views
import Derived.StringKeys
namespace Go.Proofs.YtilpaopkhghicaaDoor.Asc
open Go Go.RowKit Go.Proofs.YtilpaopkhghicaaDoor.Pb

theorem lib_cut3 (c : UInt8) (l : List UInt8) : (Lib.cut l [c]).2.2 = l.contains c := by
  unfold Lib.cut
  rw [Lib.index_one]
  by_cases h : c ∈ l
  · have h1 : Lib.indexByte l c ≠ -1 := fun e => by
      obtain ⟨i, hi, he⟩ := List.mem_iff_getElem.1 h
      exact Lib.indexByte_none e i (by rw [List.getElem?_eq_getElem hi, he])
    have h2 := Lib.indexByte_ge l c
    rw [if_pos (by omega)]
    exact (List.contains_iff_mem.2 h).symm
  · have h1 : Lib.indexByte l c = -1 := by
      have hge := Lib.indexByte_ge l c
      by_cases e : Lib.indexByte l c = -1
      · exact e
      · obtain ⟨i, hi⟩ : ∃ i : Nat, Lib.indexByte l c = i := ⟨(Lib.indexByte l c).toNat, by omega⟩
        obtain ⟨h1, _⟩ := Lib.indexByte_some hi
        exact (h (List.mem_of_getElem? h1)).elim
    rw [h1, if_neg (by omega)]
    have : l.contains c = false := by
      cases e : l.contains c with
      | false => rfl
      | true => exact (h (List.contains_iff_mem.1 e)).elim
    exact this.symm

theorem cutb_any (s : ByteArray) (c : UInt8) (m : Int) (w : World) (hs : s.size ≤ 1000000) (hm : w.cell? ⟨0, 0, none⟩ = some (.int .i64 m)) :
    Calls Tryd.prog 38 #[.string s, .string ⟨#[c]⟩] w fun e w' => e = .returned (.tuple #[.string (ofL (cutAt c (toL s)).1), .string (ofL (cutAt c (toL s)).2), .bool ((toL s).contains c)]) ∧ ∃ n, w' = w.drewN n := by
  refine (Tryd.strings_Cut s ⟨#[c]⟩ m w (by omega) hm).mono ?_
  rintro e w' ⟨rfl, hw⟩
  obtain ⟨h1, h2⟩ := lib_cut c (toL s)
  refine ⟨?_, hw⟩
  rw [← h1, ← h2, ← lib_cut3]; rfl


theorem zero_int (w : World) : (zeroValue 3).run Tryd.prog w = .ok (.int .i64 0) w := by kernel_rfl
theorem count_wf (n : Nat) (h : n ≤ 1000000) : (Lit.int .i64 (n : Int)).wf = true := by
  have h1 : IntKind.i64.min = -9223372036854775808 := rfl
  have h2 : IntKind.i64.max = 9223372036854775807 := rfl
  simp [Lit.wf, h1, h2]; omega
theorem key_inj {a b : List UInt8} (h : a ≠ b) : (Lit.string a) ≠ Lit.string b := fun e => by cases e; exact h rfl
theorem met_look {w : World} {mb : Nat} {met : List (List UInt8)} (h : MetAt w mb met) (s : ByteArray) (hs : s.size ≤ 1000000) :
    (Instr.lookup 59 (.map (some mb)) (.string s) false).run Tryd.prog w = .ok (.int .i64 (met.count (toL s))) w := by
  obtain ⟨n, D, h1, _, h3⟩ := h
  obtain ⟨c, hrun, hat, _⟩ := h1.lookup_int law_str Tryd.underlying59 Tryd.underlying3 (zero_int w) (WideMaps.keyOf_string_mk (s := s) Tryd.underlying9 (by unfold maxLen; omega))
  have := h3 (toL s)
  rw [show (Lit.string (toL s)) = .string s.data.toList from rfl, hat] at this
  cases this
  exact hrun
theorem wp_met {ops : Array Oper} {rest : List Oper} {o : Oper} {a : Act} {Q : Exit → Act → World → Prop} {w : World} {mb : Nat} {met : List (List UInt8)} (hg : o.guard = none) (m x v : Operand) (hop : o.op = Op.mapUpdate 59 m x v) (hm : a.eval m = .map (some mb)) (h : MetAt w mb met) (hl : met.length ≤ 100000)
    (s : ByteArray) (hs : s.size ≤ 1000000) (hx : a.eval x = .string s) (hv : a.eval v = .int .i64 ((met.count (toL s) : Nat) + 1)) (hK : ∀ w', MetAt w' mb (met ++ [toL s]) → Keep (fun k => k = mb) w w' → wpList Tryd.prog ops Q rest (a.put o.dst undef) w') : wpList Tryd.prog ops Q (o :: rest) a w := by
  obtain ⟨n, D, h1, h2, h3⟩ := h
  have hc : met.count (toL s) ≤ met.length := List.count_le_length
  refine wpList_mapUpdate_own (H := Unit) w hg m x v 59 hop 9 3 law_str Tryd.underlying59 (plainElem Tryd.prog 3) mb n D hm h1 (by unfold maxLen; omega) (.string s) _ (.string (toL s)) hx hv (WideMaps.keyOf_string_mk Tryd.underlying9 (by unfold maxLen; omega)) (.lit (.int .i64 ((met.count (toL s) : Nat) + 1))) []
    (plainElem_int Tryd.underlying3 (by have := count_wf (met.count (toL s) + 1) (by omega); exact this)) ?_
  intro w' hown hgr
  refine hK w' ⟨n + 1, _, hown, by simp; omega, fun t => ?_⟩ ((Keep.of_grown hgr).mono fun _ _ h => by cases h; rfl)
  by_cases ht : t = toL s
  · subst ht
    rw [Maps.atKey_put_same (h1.isMap) (by exact trivial), List.count_append]
    simp
  · rw [Maps.atKey_put_other (key_inj ht), h3 t, List.count_append]
    simp [List.count_singleton]
    rw [if_neg (fun e => ht e.symm)]; simp
end Go.Proofs.YtilpaopkhghicaaDoor.Asc
