/-
  Contracts: a file is found, its names, a file is read, of the document's disk.
  Lengths within the rows' own reach.
-/
import Derived.Test.YtlfcbhagbdonhaaDrA
namespace Go.Proofs.Ytlfcbhagbdonhaa.Asc
set_option linter.unusedSimpArgs false
set_option linter.unusedVariables false
open Go Go.RowKit Go.Proofs.Ytlfcbhagbdonhaa.Pb

def pos : List Fl → Tx → Option Nat
  | [], _ => none
  | f :: fs, n => if f.name = n then some 0 else (pos fs n).map (· + 1)
def posV (o : Option Nat) : Int := match o with | some k => k | none => -1
theorem pos_here : ∀ {fs : List Fl} {k : Nat} {x : Fl} {n : Tx}, (∀ j y, j < k → fs[j]? = some y → y.name ≠ n) → fs[k]? = some x → x.name = n → pos fs n = some k
  | [], k, x, n, _, h, _ => by simp at h
  | f :: fs, 0, x, n, _, h, e => by
    simp at h; subst h
    unfold pos; rw [if_pos e]
  | f :: fs, k + 1, x, n, h0, h, e => by
    have h1 := h0 0 f (Nat.succ_pos k) rfl
    unfold pos
    rw [if_neg h1, pos_here (fs := fs) (k := k) (fun j y hj hy => h0 (j + 1) y (Nat.succ_lt_succ hj) (by simpa using hy)) (by simpa using h) e]; rfl
theorem pos_none : ∀ {fs : List Fl} {n : Tx}, (∀ j y, j < fs.length → fs[j]? = some y → y.name ≠ n) → pos fs n = none
  | [], _, _ => rfl
  | f :: fs, n, h0 => by
    have h1 := h0 0 f (Nat.succ_pos _) rfl
    unfold pos
    rw [if_neg h1, pos_none (fs := fs) (fun j y hj hy => h0 (j + 1) y (Nat.succ_lt_succ hj) (by simpa using hy))]; rfl
theorem pos_look : ∀ {fs : List Fl} {n : Tx}, match pos fs n with | some k => ∃ x, fs[k]? = some x ∧ x.name = n ∧ look fs n = some x | none => look fs n = none
  | [], n => rfl
  | f :: fs, n => by
    have ih := pos_look (fs := fs) (n := n)
    unfold pos
    by_cases e : f.name = n
    · rw [if_pos e]
      exact ⟨f, rfl, e, by unfold look; simp [e]⟩
    · rw [if_neg e]
      have hl : look (f :: fs) n = look fs n := by unfold look; simp [e]
      cases hp : pos fs n with
      | none => rw [hp] at ih; show look (f :: fs) n = none; rw [hl]; exact ih
      | some k =>
        rw [hp] at ih
        obtain ⟨x, h1, h2, h3⟩ := ih
        exact ⟨x, by simpa using h1, h2, by rw [hl]; exact h3⟩

section
variable {w w' : World} {F : Nat → Prop} {b : Nat} {dk : Dk} {lv : Value} {last : Int}
set_option maxHeartbeats 1000000 in
theorem find_any (h : RIn w F b dk lv last) (T : ByteArray) (hT : T.size ≤ 1000000) (hlen : dk.fs.length ≤ 1000) :
    Calls Try.prog 58 #[.pointer (some ⟨b, 0, none⟩), .string T] w fun e w' => e = .returned (.int .i64 (posV (pos dk.fs (toL T)))) ∧ w' = w := by
  refine calls_gen fun R hR => ?_
  have H := Lib.hid h
  have c1 := blk_cell h.blk 1
  simp only [rcell, List.getElem?_toArray, List.getElem?_cons_zero, List.getElem?_cons_succ] at c1
  have hlt := h.lt
  obtain ⟨A, c, rfl, hc, hget⟩ := rf_get h.row.view
  have HG := Lib.hid hget
  obtain ⟨fs, hfs⟩ : ∃ fs, dk.fs = fs := ⟨_, rfl⟩
  rw [hfs] at c1 hlen HG hR hc
  clear h hget hfs
  go_enter Try.func58, Try.ntmps58
  go_wp2_with fail
  go_loopw [5] (fun i wr => ∃ k : Nat, k ≤ fs.length ∧ i = .int .i64 k ∧ wr = w ∧ Hid (∀ j y, j < k → fs[j]? = some y → y.name ≠ toL T)) (fun i _ => fs.length - (intOf i).toNat)
  case atStart => exact ⟨0, Nat.zero_le _, rfl, rfl, fun _ _ h => by omega⟩
  case round =>
    obtain ⟨k, hk, rfl, hwr, hall⟩ := hrel
    rw [hwr]
    have HWR := Lib.hid hwr
    clear hwr
    by_cases hlt1 : k < fs.length
    · obtain ⟨x, hx⟩ : ∃ x, fs[k]? = some x := ⟨_, lt_get hlt1⟩
      obtain ⟨g, off, rfl, hgl, _, hgx⟩ := HG.out k hlt1
      obtain ⟨B, c', _, _, d0, _, _⟩ := hgx x hx
      obtain ⟨X, hX⟩ : ∃ X, ofL x.name = X := ⟨_, rfl⟩
      rw [hX] at d0
      have HX : Hid (toL X = x.name) := Lib.hid (by rw [← hX, toL_ofL])
      have HXX := Lib.hid hx
      clear hgx hX hx
      cases hh : (X.toList == T.toList) with
      | true =>
        have he : x.name = toL T := by
          rw [← HX.out, ← toList_toL, ← toList_toL]; exact by simpa using hh
        rw [pos_here hall.out HXX.out he] at hR
        clear he
        go_wp2_with fail
        go_ret
        exact hR _ _ ⟨rfl, rfl⟩
      | false =>
        have he : x.name ≠ toL T := by
          rw [← HX.out, ← toList_toL, ← toList_toL]; exact by simpa using hh
        have HE := Lib.hid he
        clear he
        go_wp2_with fail
        go_roundw
        case rel =>
          refine ⟨k + 1, by omega, by go_num, by first | trivial | rfl | exact HWR.out, fun j y hj hy => ?_⟩
          by_cases hjk : j = k
          · subst hjk; rw [HXX.out] at hy; cases hy; exact HE.out
          · exact hall.out j y (by omega) hy
        case measure => simp [intOf]; omega
    · obtain rfl : k = fs.length := by omega
      rw [pos_none hall.out] at hR
      go_wp2_with fail
      go_ret
      exact hR _ _ ⟨rfl, rfl⟩

theorem infoS : (Try.prog.info? 9).map (fun i => (i.zero, i.size, i.bytes)) = some (some (.string ByteArray.empty), 1, 16) := by kernel_rfl
set_option maxHeartbeats 1000000 in
theorem rnames_any (h : RIn w F b dk lv last) (hlen : dk.fs.length ≤ 1000) (hnl : ∀ f ∈ dk.fs, f.name.length ≤ 1000000) :
    Calls Try.prog 49 #[.pointer (some ⟨b, 0, none⟩)] w fun e w' => ∃ v, e = .returned v ∧ Own Rp.str 9 w' (w.heap.size ≤ ·) (names dk.fs) v ∧ Below w.heap.size w w' := by
  refine calls_gen fun R hR => ?_
  have H := Lib.hid h; have HNL := Lib.hid hnl
  obtain ⟨A, c, rfl, hc, _⟩ := rf_get h.row.view
  clear h hnl
  go_enter Try.func49, Try.ntmps49
  go_wp2_with fail
  go_loopw [3, 4] (fun nv i wr => ∃ k : Nat, k ≤ dk.fs.length ∧ i = .int .i64 k ∧ Own Rp.str 9 wr (w.heap.size ≤ ·) (names (dk.fs.take k)) nv ∧ Below w.heap.size w wr) (fun _ i _ => dk.fs.length - (intOf i).toNat)
  case atStart => exact ⟨0, Nat.zero_le _, rfl, Own.nil _ _ _ _, Below.refl _ _⟩
  case round =>
    obtain ⟨k, hk, rfl, ho, hb⟩ := hrel
    have HB := Lib.hid hb; have HO := Lib.hid ho
    have HR := Lib.hid (H.out.below hb)
    have c1 := blk_cell HR.out.blk 1
    simp only [rcell, List.getElem?_toArray, List.getElem?_cons_zero, List.getElem?_cons_succ] at c1
    have hltb := HR.out.lt
    obtain ⟨NA, nc, rfl, hnc⟩ := ho.slice
    have hnl : (names (dk.fs.take k)).length = k := by unfold names; rw [List.length_map, List.length_take]; omega
    rw [hnl] at hnc ⊢
    have HNN := Lib.hid hnl
    clear hb ho hnl
    by_cases hlt1 : k < dk.fs.length
    · obtain ⟨x, hx⟩ : ∃ x, dk.fs[k]? = some x := ⟨_, lt_get hlt1⟩
      obtain ⟨A2, c2, e2, _, hget⟩ := rf_get HR.out.row.view
      cases e2
      obtain ⟨g, off, rfl, hgl, _, hgx⟩ := hget k hlt1
      obtain ⟨B, c', _, _, d0, _, _⟩ := hgx x hx
      obtain ⟨X, hX⟩ : ∃ X, ofL x.name = X := ⟨_, rfl⟩
      rw [hX] at d0
      have HX := Lib.hid hX; have HXX := Lib.hid hx
      have HTK : Hid (names (dk.fs.take (k + 1)) = names (dk.fs.take k) ++ [x.name]) := Lib.hid (by unfold names; rw [List.take_add_one, hx]; simp)
      clear hgx hX hx hget
      go_wp2_with (with_reducible (first | refine stop_append ?_))
      refine ⟨wp_append1_flat (h1 := fun _ => rfl) (enc := fun x => Value.string (ofL x)) (B := w.heap.size) (xs := names (dk.fs.take k)) (y := x.name) Try.underlying38 infoS rfl (by have := HO.out; rw [HNN.out] at this; exact this) rfl rfl (by rw [HX.out]) (by rw [HNN.out]; omega) (by decide) HB.out.size ?_⟩
      intro v1 w1 ho1 hb1 hs1 _
      have HO1 := Lib.hid ho1; have HB1 := Lib.hid (HB.out.trans hb1)
      clear ho1 hb1
      go_wp2_with fail
      go_roundw
      case rel => exact ⟨k + 1, by omega, by go_num, by rw [HTK.out]; exact HO1.out, HB1.out⟩
      case measure => simp [intOf]; omega
    · obtain rfl : k = dk.fs.length := by omega
      have ho := HO.out
      rw [HNN.out, List.take_length] at ho
      have HO2 := Lib.hid ho
      clear ho
      go_wp2_with fail
      go_ret
      exact hR _ _ ⟨_, rfl, HO2.out, HB.out⟩

set_option maxHeartbeats 1000000 in
theorem rread_any (h : RIn w F b dk lv last) (T : ByteArray) (hT : T.size ≤ 1000000) (hlen : dk.fs.length ≤ 1000) (hl : ∀ f ∈ dk.fs, f.b.length ≤ 140737488351232) {E : Int} {bs : List UInt8} (he : (match look dk.fs (toL T) with | none => (4, []) | some f => ((0 : Int), f.b)) = (E, bs)) :
    Calls Try.prog 51 #[.pointer (some ⟨b, 0, none⟩), .string T] w fun e w' => ∃ u, e = .returned (.tuple #[u, .int .i64 E]) ∧ Own Rp.u8 5 w' (w.heap.size ≤ ·) bs u ∧ Below w.heap.size w w' := by
  refine calls_gen fun R hR => ?_
  have H := Lib.hid h; have HL := Lib.hid hl
  have c1 := blk_cell h.blk 1
  simp only [rcell, List.getElem?_toArray, List.getElem?_cons_zero, List.getElem?_cons_succ] at c1
  have hltb := h.lt
  obtain ⟨A, c, rfl, hc, hget⟩ := rf_get h.row.view
  have HG := Lib.hid hget
  have HP := Lib.hid (pos_look (fs := dk.fs) (n := toL T))
  clear h hl hget
  go_enter Try.func51, Try.ntmps51
  go_wp2_with fail
  refine (find_any H.out T hT hlen).mono ?_
  rintro e w1 ⟨rfl, hw1⟩
  rw [hw1]
  clear hw1
  cases hp : pos dk.fs (toL T) with
  | none =>
    rw [hp] at HP
    have hlk : look dk.fs (toL T) = none := HP.out
    rw [hlk] at he
    cases he
    clear hlk HP hp
    unfold posV
    go_wp2_with fail
    go_ret2
    exact hR _ _ ⟨_, rfl, Own.nil _ _ _ _, Below.refl _ _⟩
  | some k =>
    rw [hp] at HP
    obtain ⟨x, hx, hxn, hlk⟩ := HP.out
    rw [hlk] at he
    cases he
    have hk : k < dk.fs.length := (List.getElem?_eq_some_iff.1 hx).1
    obtain ⟨g, off, rfl, hgl, _, hgx⟩ := HG.out k hk
    obtain ⟨B, c', hv, hc', d0, d1, d2⟩ := hgx x hx
    have HV := Lib.hid hv
    have hxl := HL.out x (List.mem_of_getElem? hx)
    have hnn : ¬ (k : Int) < 0 := by omega
    have HML : Hid (x.b.length ≤ maxLen ∧ x.b.length * 1 ≤ 140737488355328) := Lib.hid ⟨by unfold maxLen; omega, by omega⟩
    clear hgx hx hlk HP hp hxn hv d0 d2
    unfold posV
    go_wp2_with (with_reducible (first | refine stop_append ?_))
    refine ⟨wp_clone Try.underlying28 info5 rfl (show 0 < 1 by decide) rfl rfl HV.out HML.out.1 HML.out.2 ?_⟩
    rintro v1 w1 ho1 hb1 ⟨g1, c1', rfl, hc1, hg1⟩
    have HO1 : Hid (Own Rp.u8 5 w1 (w.heap.size ≤ ·) x.b (.slice (some ⟨g1, 0, none⟩) x.b.length c1')) := Lib.hid (ho1.flat fun k hk => by simp [Value.ownBlock] at hk; omega)
    have HB1 := Lib.hid hb1
    clear ho1 hb1
    go_wp2_with fail
    go_ret2
    exact hR _ _ ⟨_, rfl, HO1.out, HB1.out⟩
end
end Go.Proofs.Ytlfcbhagbdonhaa.Asc
