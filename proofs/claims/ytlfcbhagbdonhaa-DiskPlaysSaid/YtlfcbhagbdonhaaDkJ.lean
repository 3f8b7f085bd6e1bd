/-
  Contract: all names, rising.
  Lengths within the rows' own reach.
-/
import Derived.Test.YtlfcbhagbdonhaaDkI
import Derived.Test.YtlfcbhagbdonhaaShelf
import Derived.Shelf.SlIter.Nil
namespace Go.Proofs.Ytlfcbhagbdonhaa.Asc
set_option linter.unusedSimpArgs false
set_option linter.unusedVariables false
open Go Go.RowKit Go.Maps Go.Sort Go.Shelf Go.Proofs.Ytlfcbhagbdonhaa.Pb

theorem names_perm {w : World} {mb N : Nat} {D : DataW Unit} {g : Tx → Option Nat} (h : w.ownsMap (H := Unit) Try.prog 9 ptrElem mb N D) (hf : MapFacts D g N) (ns : List Tx) (hn : ns.Nodup) (hm : ∀ x, x ∈ ns ↔ (g x).isSome = true) : ns.Perm (strKeys D) := by
  obtain ⟨es, rfl, hk⟩ := h.keysOf
  obtain ⟨es', e, hp⟩ := h.tidy law_str
  cases e
  refine perm_strKeys hp (fun p hp' => ?_) hn fun x => by rw [hm x, hf.has x]
  obtain ⟨key, hkey⟩ := hk p hp'
  obtain ⟨x, _, hx, _⟩ := Maps.keyOf_str Try.underlying9 hkey
  exact ⟨x, hx⟩
theorem rise_nodup {l : List Tx} (h : Rise l) : l.Nodup := h.imp fun {a b} hlt e => by rw [e] at hlt; exact List.lt_irrefl _ hlt
theorem rise_sorted {l ss : List Tx} (h : Rise l) (hp : ss.Perm l) : (ss.mergeSort fun x y => decide (x ≤ y)) = l := by
  have h1 : ss.mergeSort leB = l.mergeSort leB := mergeSort_of_perm hp
  show ss.mergeSort leB = l
  rw [h1]
  refine List.mergeSort_of_pairwise (h.imp fun {a b} hlt => ?_)
  exact decide_eq_true (List.le_of_lt hlt)
theorem sorts (m : Nat) : AnyZ.SortsIn Try.prog Try.sortedA_ren Fence.wide m :=
  ⟨fun blk off cap ss W hH hblk hsz => callsIn_wide.2 (Try.slices_Sort_string blk off cap ss W hH hblk hsz),
   fun p cap W => callsIn_wide.2 (Try.slices_Sort_string_none p cap W)⟩
theorem keys_any (mv : Option Nat) (W : World) :
    Calls Try.prog 39 #[.map mv] W fun e w' => e = .returned (.func (.func 55) #[] #[.pointer (some ⟨W.heap.size, 0, none⟩)]) ∧ w' = W.alloc (.cells #[.map mv] 59) :=
  (callsIn_wide (n := 5)).1 (AnyZ.keys_in Try.keysA Fence.wide 5 trivial rfl mv W)
theorem sorted_any {w : World} {mb : Nat} {g : Tx → Option Nat} {N : Nat} (h : MapAt w mb g N) (hN : N ≤ 1000000) (ns : List Tx) (hr : Rise ns) (hm : ∀ x, x ∈ ns ↔ (g x).isSome = true) :
    Calls Try.prog 38 #[.func (.func 55) #[] #[.pointer (some ⟨w.heap.size, 0, none⟩)]] (w.alloc (.cells #[.map (some mb)] 59)) fun e w' =>
      ∃ v, e = .returned v ∧ Own Rp.str 9 w' (w.heap.size ≤ ·) ns v ∧ Below w.heap.size w w' := by
  obtain ⟨D, hown, hf⟩ := h
  have hbl := hown.lt
  have hsz : Maps.size D = N := hf.size
  have hmax : Maps.size D ≤ maxLen := by rw [hsz]; unfold maxLen; omega
  have hbytes : Maps.size D * 16 ≤ 140737488355328 := by rw [hsz]; omega
  have hperm := names_perm hown hf ns (rise_nodup hr) hm
  refine (callsIn_wide (n := 6)).1 ?_
  have hseq : SeqGives Fence.wide 3 Try.prog 55 #[.pointer (some ⟨w.heap.size, 0, none⟩)] encStr (fun ss => ss.Perm (strKeys D)) (Maps.size D) (w.alloc (.cells #[.map (some mb)] 59)) :=
    AnyZ.keys_gives (ρ := Try.keysA_ren) { Try.keysA with } Fence.wide _ trivial rfl (by omega) w.heap.size mb N D _ (by simp) (by simp) (by
      obtain ⟨es, clock, hb, Ft, hs, hD⟩ := hown
      exact ⟨es, clock, (Below.heap_alloc _ _ mb hbl).trans hb, Ft, hs, hD⟩)
  have cS := AnyZ.sorted_in Try.sortedA Fence.wide 6 trivial trivial trivial trivial rfl (by omega) (sorts _) (enters_of Try.func54 (by kernel_rfl) rfl) 55 #[.pointer (some ⟨w.heap.size, 0, none⟩)] trivial (enters_of Try.func55 (by kernel_rfl) rfl) _ _ hmax hbytes _ hseq
  change CallsIn _ _ Try.prog 38 _ _ _ at cS
  refine cS.mono ?_
  rintro e w' ⟨v, ss, rfl, hS, hrow, hnil, hb⟩
  have hes : (ss.mergeSort fun x y => decide (x ≤ y)) = ns := rise_sorted hr (hS.trans hperm.symm)
  have hl : ss.length = ns.length := by rw [← hes, List.length_mergeSort]
  rw [hes, hl] at hrow
  refine ⟨v, rfl, ⟨ns.map encStr, ⟨hrow.1, ?_⟩, fun k hk => ?_, Elems.of_map _⟩, (below_new w _).trans (hb.mono (by simp))⟩
  · rcases hrow.2 with h | ⟨gb, cap, cur, h1, h2, h3⟩
    · exact .inl h
    · exact .inr ⟨gb, cap, cur, h1, Nat.zero_le _, h3⟩
  · rcases hrow.2 with ⟨h, _⟩ | ⟨gb, cap, cur, h1, h2, h3⟩
    · rw [h] at hk; simp [Value.ownBlock] at hk
    · rw [h1] at hk; simp [Value.ownBlock] at hk
      simp at h2; omega
theorem sorted_nil (w : World) :
    Calls Try.prog 38 #[.func (.func 55) #[] #[.pointer (some ⟨w.heap.size, 0, none⟩)]] (w.alloc (.cells #[.map none] 59)) fun e w' =>
      e = .returned (.slice none 0 0) ∧ Below w.heap.size w w' := by
  refine (callsIn_wide (n := 6)).1 ?_
  have hseq : SeqGives Fence.wide 3 Try.prog 55 #[.pointer (some ⟨w.heap.size, 0, none⟩)] encStr (fun ss : List (List UInt8) => ss = []) 0 (w.alloc (.cells #[.map none] 59)) :=
    AnyZ.keys_gives_nil (ρ := Try.keysA_ren) { Try.keysA with } Fence.wide _ trivial rfl w.heap.size _ (by simp) (by simp)
  have cS := AnyZ.sorted_in Try.sortedA Fence.wide 6 trivial trivial trivial trivial rfl (by omega) (sorts _) (enters_of Try.func54 (by kernel_rfl) rfl) 55 #[.pointer (some ⟨w.heap.size, 0, none⟩)] trivial (enters_of Try.func55 (by kernel_rfl) rfl) _ 0 (Nat.zero_le _) (by omega) _ hseq
  change CallsIn _ _ Try.prog 38 _ _ _ at cS
  refine cS.mono ?_
  rintro e w' ⟨v, ss, rfl, rfl, hrow, hnil, hb⟩
  obtain rfl : v = .slice none 0 0 := hnil.2 rfl
  exact ⟨rfl, (below_new w _).trans (hb.mono (by simp))⟩

theorem names_any {w : World} {S : Nat → Prop} {d : Nat} {dk : Dk} {g : Tx → Option Nat} {tag : Nat → Option Tx} {mv : Option Nat} (h : DIn w S d dk g tag mv) (hlen : dk.fs.length ≤ 1000000) :
    Calls Try.prog 17 #[.pointer (some ⟨d, 0, none⟩)] w fun e w' => ∃ v, e = .returned v ∧ Own Rp.str 9 w' (w.heap.size ≤ ·) (names dk.fs) v ∧ Below w.heap.size w w' := by
  refine calls_gen fun R hR => ?_
  have H := Lib.hid h
  have c1 := blk_cell h.blk 1
  simp only [dcells, List.getElem?_toArray, List.getElem?_cons_zero, List.getElem?_cons_succ] at c1
  have hlt := h.lt
  clear h
  go_enter Try.func17, Try.ntmps17
  go_wp2_with fail
  refine (keys_any mv w).mono ?_
  rintro e w1 ⟨rfl, hw1⟩
  have HW1 := Lib.hid hw1
  clear hw1
  cases mv with
  | none =>
    go_wp2_with fail
    rw [HW1.out]
    refine (sorted_nil w).mono ?_
    rintro e w2 ⟨rfl, hb2⟩
    have HB2 := Lib.hid hb2
    clear hb2
    go_wp2_with fail
    go_ret
    exact hR _ _ ⟨_, rfl, by rw [(H.out.nomap rfl).1]; exact Own.nil _ _ _ _, HB2.out⟩
  | some mb =>
    go_wp2_with fail
    rw [HW1.out]
    refine (sorted_any (H.out.map mb rfl).1 hlen (names dk.fs) H.out.ok.ord (fun x => by rw [H.out.hasg, look_isSome, decide_eq_true_iff])).mono ?_
    rintro e w2 ⟨v, rfl, ho2, hb2⟩
    have HB2 := Lib.hid hb2; have HO2 := Lib.hid ho2
    clear hb2 ho2
    go_wp2_with fail
    go_ret
    exact hR _ _ ⟨v, rfl, HO2.out, HB2.out⟩
end Go.Proofs.Ytlfcbhagbdonhaa.Asc
