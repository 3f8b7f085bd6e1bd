/-
  Contracts for package http: cutting with the word whether, trimming, hexadecimal digits.
  Lengths within the rows' own reach; the library's MaxLen is a number.
-/
import Derived.Test.YtaihjnicondifaaDoorHtP
import Derived.Test.YtaihjnicondifaaDoorReg
import Derived.Shelf.Strings.SlTrimAscii
namespace Go.Proofs.YtaihjnicondifaaDoor.Asc
open Go Go.RowKit Go.Proofs.YtaihjnicondifaaDoor.Pb

theorem lib_cut3 (c : UInt8) (l : List UInt8) : (Lib.cut l [c]).2.2 = l.contains c := by
  unfold Lib.cut
  rw [Lib.index_one]
  by_cases h : c ∈ l
  · have h1 : Lib.indexByte l c ≠ -1 := fun e => by
      obtain ⟨i, hi, he⟩ := List.mem_iff_getElem.1 h
      exact Lib.indexByte_none e i (by rw [List.getElem?_eq_getElem hi, he])
    have h2 := Lib.indexByte_ge l c
    rw [if_pos (by omega)]
    exact (List.contains_iff_mem.2 h).symm
  · have h1 : Lib.indexByte l c = -1 := by
      have hge := Lib.indexByte_ge l c
      by_cases e : Lib.indexByte l c = -1
      · exact e
      · obtain ⟨i, hi⟩ : ∃ i : Nat, Lib.indexByte l c = i := ⟨(Lib.indexByte l c).toNat, by omega⟩
        obtain ⟨h1, _⟩ := Lib.indexByte_some hi
        exact (h (List.mem_of_getElem? h1)).elim
    rw [h1, if_neg (by omega)]
    have : l.contains c = false := by
      cases e : l.contains c with
      | false => rfl
      | true => exact (h (List.contains_iff_mem.1 e)).elim
    exact this.symm

theorem cutb_any (s : ByteArray) (c : UInt8) (m : Int) (w : World) (hs : s.size ≤ 1000000) (hm : w.cell? ⟨0, 0, none⟩ = some (.int .i64 m)) :
    Calls Tryd.prog 44 #[.string s, .string ⟨#[c]⟩] w fun e w' => e = .returned (.tuple #[.string (ofL (cutAt c (toL s)).1), .string (ofL (cutAt c (toL s)).2), .bool ((toL s).contains c)]) ∧ ∃ n, w' = w.drewN n := by
  refine (Tryd.strings_Cut s ⟨#[c]⟩ m w (by omega) hm).mono ?_
  rintro e w' ⟨rfl, hw⟩
  obtain ⟨h1, h2⟩ := lib_cut c (toL s)
  refine ⟨?_, hw⟩
  rw [← h1, ← h2, ← lib_cut3]; rfl

theorem dropWhile_nil_all {p : UInt8 → Bool} (l : List UInt8) : l.dropWhile p = [] ↔ l.all p = true := by
  induction l with
  | nil => simp
  | cons a l ih =>
    rw [List.dropWhile_cons, List.all_cons]
    cases h : p a with
    | true => simp [ih]
    | false => simp
/-- digits off both ends -/
def digOff (l : List UInt8) : List UInt8 := ((l.reverse.dropWhile isDig).reverse).dropWhile isDig
theorem digOff_nil (l : List UInt8) : (digOff l).isEmpty = l.all isDig := by
  unfold digOff
  rw [Bool.eq_iff_iff, List.isEmpty_iff, dropWhile_nil_all]
  constructor
  · intro h
    obtain ⟨t, ht⟩ : ∃ t, l = (l.reverse.dropWhile isDig).reverse ++ t ∧ t.all isDig = true := by
      refine ⟨(l.reverse.takeWhile isDig).reverse, ?_, ?_⟩
      · rw [← List.reverse_append, List.takeWhile_append_dropWhile, List.reverse_reverse]
      · rw [List.all_reverse]; exact List.all_eq_true.2 fun x hx => by
          have := List.all_takeWhile (p := isDig) (l := l.reverse)
          exact List.all_eq_true.1 this x hx
    rw [ht.1, List.all_append, h, ht.2]; rfl
  · intro h
    have : l.reverse.dropWhile isDig = [] := by rw [dropWhile_nil_all, List.all_reverse]; exact h
    rw [this]; rfl
def digB : List UInt8 := [48, 49, 50, 51, 52, 53, 54, 55, 56, 57]
theorem digB_all : ∀ c : UInt8, List.contains digB c = isDig c := by
  intro c
  have h : ∀ a : UInt8, (c == a) = (c.toNat == a.toNat) := by
    intro a; rw [Bool.eq_iff_iff, beq_iff_eq, beq_iff_eq, UInt8.toNat_inj]
  unfold digB isDig
  simp only [List.contains_cons, h, List.contains_nil]
  rw [Bool.eq_iff_iff]
  simp
  omega
theorem trimdig_any (s : ByteArray) (w : World) (hs : s.size ≤ 1000000) :
    Calls Tryd.prog 61 #[.string s, .string ⟨#[48, 49, 50, 51, 52, 53, 54, 55, 56, 57]⟩] w fun e w' => e = .returned (.string (ofL (digOff (toL s)))) ∧ Below w.heap.size w w' := by
  refine (Any.strings_Trim_laid Tryd.lays160 (by kernel_rfl) s ⟨#[48, 49, 50, 51, 52, 53, 54, 55, 56, 57]⟩ w (by omega) (by decide) (ascii_of_all (by decide))).mono ?_
  rintro e w1 ⟨rfl, hb⟩
  refine ⟨ret_str ?_, hb⟩
  have e := digB_all
  unfold digB at e
  unfold digOff Lib.trimS Lib.trimLeftS Lib.trimRightS ofL
  simp only [e]
  rfl

theorem trimr_any (s : ByteArray) (w : World) (hs : s.size ≤ 1000000) :
    Calls Tryd.prog 47 #[.string s, .string ⟨#[32, 9]⟩] w fun e w' => e = .returned (.string (ofL (trimR (toL s)))) ∧ Below w.heap.size w w' := by
  refine (Any.strings_TrimRight_laid Tryd.lays162 (by kernel_rfl) s ⟨#[32, 9]⟩ w (by omega) (by decide) (ascii_of_all (by decide))).mono ?_
  rintro e w1 ⟨rfl, hb⟩
  refine ⟨ret_str ?_, hb⟩
  have e : ∀ c : UInt8, List.contains [32, 9] c = isTB c := by
    intro c; unfold isTB
    have h : ∀ a : UInt8, (c == a) = (c.toNat == a.toNat) := by
      intro a; rw [Bool.eq_iff_iff, beq_iff_eq, beq_iff_eq, UInt8.toNat_inj]
    rw [List.contains_cons, List.contains_cons, h, h]
    simp
  unfold trimR Lib.trimRightS ofL
  simp only [e]
  rfl

theorem triml0_any (s : ByteArray) (w : World) :
    Calls Tryd.prog 62 #[.string s, .string ⟨#[48]⟩] w fun e w' => e = .returned (.string (ofL (zerosOff (toL s)))) ∧ w' = w := by
  refine (Tryd.strings_TrimLeft_one s 48 (by decide) w).mono ?_
  rintro e w1 ⟨rfl, rfl⟩
  exact ⟨ret_str rfl, rfl⟩

theorem cutp_any (s : ByteArray) (w : World) :
    Calls Tryd.prog 45 #[.string s, .string ⟨#[72, 84, 84, 80, 47, 49, 46]⟩] w fun e w' => ∃ d, e = .returned (.tuple #[.string d, .bool ((toL s).take 7 == httpB)]) ∧ ((toL s).take 7 == httpB → toL d = (toL s).drop 7) ∧ w' = w ∧ d.size ≤ s.size := by
  refine (Tryd.strings_CutPrefix s ⟨#[72, 84, 84, 80, 47, 49, 46]⟩ w).mono ?_
  rintro e w1 ⟨rfl, rfl⟩
  have h : Lib.hasPrefix (toL s) httpB = ((toL s).take 7 == httpB) := by
    unfold Lib.hasPrefix
    rw [Bool.eq_iff_iff, List.isPrefixOf_iff_prefix, beq_iff_eq, List.prefix_iff_eq_take]
    constructor
    · intro h; exact h.symm
    · intro h; exact h.symm
  refine ⟨ofL (Lib.trimPrefix (toL s) httpB), ?_, ?_, rfl, ?_⟩
  · rw [← h]; rfl
  · intro h2; rw [toL_ofL]; unfold Lib.trimPrefix; rw [h, if_pos h2]; rfl
  · rw [ofL_size, ← toL_len]; unfold Lib.trimPrefix; split
    · simp
    · exact Nat.le_refl _

theorem lowerB_ofNat (c : UInt8) : (((c.toNat : Int)).toNat.toUInt8) = c := by simp

set_option maxHeartbeats 400000 in
/-- http.hex -/
theorem hex_any (c : UInt8) (w : World) :
    Calls Tryd.prog 48 #[.int .u8 c.toNat] w fun e w' => e = .returned (.int .i64 (hexN c)) ∧ Below w.heap.size w w' := by
  refine calls_gen fun R hR => ?_
  go_enter Tryd.func48, Tryd.ntmps48
  go_wp2_with (with_reducible (first | refine stop_convert ?_))
  refine ⟨wp_string (F := fun _ => True) (l := [c]) Tryd.underlying26 Tryd.underlying5 Tryd.underlying9 ?_ ?_⟩
  · exact ((Own.lit (d := Rp.u8) (e := 5) w (G := fun _ => False) (xs := [c]) (cs := [u8v c]) (Elems.of_map _) rfl (by unfold maxLen; simp)).view).mono fun _ _ => trivial
  have hb0 : Hid (Below w.heap.size w (w.alloc (.cells #[.int .u8 c.toNat] 5))) := Lib.hid (below_new w _)
  obtain ⟨S, hS⟩ : ∃ S, ofL [c] = S := ⟨_, rfl⟩
  have hSs : S.size ≤ 1000000 := by rw [← hS, ofL_size]; simp
  have HS := Lib.hid hS
  rw [hS]
  clear hS
  go_wp2_with fail
  refine (lower_any S _ hSs).mono ?_
  rintro e w1 ⟨rfl, hb1⟩
  have HB := Lib.hid (hb0.out.trans (hb1.mono hb0.out.size))
  have hl : Hid (ofL (lower (toL S)) = ofL [lowerB c]) := Lib.hid (by rw [← HS.out, toL_ofL]; rfl)
  rw [hl.out]
  obtain ⟨T, hT⟩ : ∃ T, ofL [lowerB c] = T := ⟨_, rfl⟩
  have hts : 0 < T.size := by rw [← hT, ofL_size]; simp
  have HT0 : Hid (T[0] = lowerB c) := Lib.hid (by subst hT; rfl)
  rw [hT]
  clear hT hb1
  go_wp2_with fail
  refine (Tryd.strings_IndexByte _ _ _).mono ?_
  rintro e w2 ⟨rfl, rfl⟩
  go_wp2_with fail
  go_ret
  refine hR _ _ ⟨ret_int ?_, HB.out⟩
  unfold hexN
  rw [HT0.out]
  rfl

end Go.Proofs.YtaihjnicondifaaDoor.Asc
