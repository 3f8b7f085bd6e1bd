/-
  Contracts: a file goes from the document's disk.
  Lengths within the rows' own reach.
-/
import Derived.Test.YtlfcbhagbdonhaaDrB
namespace Go.Proofs.Ytlfcbhagbdonhaa.Asc
set_option linter.unusedSimpArgs false
set_option linter.unusedVariables false
open Go Go.RowKit Go.Proofs.Ytlfcbhagbdonhaa.Pb

def dropAt (fs : List Fl) (k : Nat) : List Fl := fs.take k ++ fs.drop (k + 1)
theorem dropAt_pos : ∀ {fs : List Fl} {n : Tx} {k : Nat}, Ord fs → pos fs n = some k → dropAt fs k = dropF fs n
  | [], n, k, _, h => by cases h
  | f :: fs, n, k, ho, h => by
    have h' : (∀ x ∈ names fs, f.name < x) ∧ Ord fs := List.pairwise_cons.1 ho
    unfold pos at h
    by_cases e : f.name = n
    · rw [if_pos e] at h
      cases h
      have hn : ∀ x ∈ fs, x.name ≠ n := fun x hx e2 => by
        have := h'.1 x.name (List.mem_map.2 ⟨x, hx, rfl⟩)
        rw [e, e2] at this; exact List.lt_irrefl _ this
      have h1 : fs.filter (fun f => f.name != n) = fs := by rw [List.filter_eq_self]; intro x hx; simpa using hn x hx
      show [] ++ fs = dropF (f :: fs) n
      unfold dropF
      rw [List.filter_cons, if_neg (by simp [e]), h1]; rfl
    · rw [if_neg e] at h
      cases hp : pos fs n with
      | none => rw [hp] at h; cases h
      | some j =>
        rw [hp] at h
        cases h
        have ih := dropAt_pos h'.2 hp
        have h2 : dropF (f :: fs) n = f :: dropF fs n := by unfold dropF; simp [e]
        rw [h2, ← ih]; rfl

section
variable {w w' : World} {F : Nat → Prop} {b : Nat} {dk : Dk} {lv : Value} {last : Int}
set_option maxHeartbeats 4000000 in
theorem without_own (h : RIn w F b dk lv last) (n : Nat) (hn : n < dk.fs.length) (hlen : dk.fs.length ≤ 1000) :
    Calls Try.prog 60 #[.pointer (some ⟨b, 0, none⟩), .int .i64 n] w fun e w' => e = .returned (.tuple #[]) ∧ (∃ lv' last', RIn w' (fun j => F j ∨ w.heap.size ≤ j) b { dk with fs := dropAt dk.fs n } lv' last' ∧ ∀ k, lv'.ownBlock = some k → w.heap.size ≤ k) ∧ Keep (fun j => j = b) w w' := by
  refine calls_gen fun R hR => ?_
  have H := Lib.hid h
  have c1 := blk_cell h.blk 1
  simp only [rcell, List.getElem?_toArray, List.getElem?_cons_zero, List.getElem?_cons_succ] at c1
  have hltb := h.lt
  have ho := h.row
  obtain ⟨l, hl⟩ : ∃ l, dk.fs = l := ⟨_, rfl⟩
  rw [hl] at ho hn hlen
  have HLL := Lib.hid hl
  have hne : l ≠ [] := by rintro rfl; simp at hn
  have hvw := ho.view.bnd
  obtain ⟨g, cap, cur, cells, rfl, hFg, hgb, hlc, hcm, -⟩ := ho.block hne
  have hglt := blk_lt hgb
  have HT1 := Lib.hid (hvw.take n (by omega) (by simp))
  have hd1 := hvw.drop (n + 1) (by omega)
  rw [Nat.zero_add, show rfE.sz = 3 from rfl] at hd1
  have HDa : Hid (cap = n + 1 → View rfE w (fun k => F k ∧ k < w.heap.size) (l.drop (n + 1)) (.slice (some ⟨g, 0, none⟩) (l.length - (n + 1)) 0)) := Lib.hid fun h => by rw [if_pos h, h, Nat.sub_self] at hd1; exact hd1
  have HDb : Hid (¬ cap = n + 1 → View rfE w (fun k => F k ∧ k < w.heap.size) (l.drop (n + 1)) (.slice (some ⟨g, (n + 1) * 3, none⟩) (l.length - (n + 1)) (cap - (n + 1)))) := Lib.hid fun h => by rw [if_neg h] at hd1; exact hd1
  have hnc : n ≤ cap := by omega
  have hn1 : n + 1 ≤ cap := by omega
  clear h ho hd1 hvw hgb hl
  go_enter Try.func60, Try.ntmps60
  go_wp2_with (with_reducible (first | refine stop_append ?_))
  refine ⟨wp_append_view (r := rfE) (F := fun _ => False) Try.underlying78 infoFl rfl (by decide) (Own.nil rfE _ w _) rfl rfl HT1.out (fun k _ e => by simp [Value.ownBlock] at e) (by simp; unfold maxLen at *; omega) (by simp; omega) ?_⟩
  intro v1 w1 ho1 hk1 _ hob1
  have hb1 : Below w.heap.size w w1 := hk1.below (Nat.le_refl _) (fun i _ e => by simp [Value.ownBlock] at e)
  obtain ⟨z1, hz1⟩ : ∃ z, [] ++ l.take n = z := ⟨_, rfl⟩
  rw [hz1] at ho1
  have hz1l : z1.length = n := by rw [← hz1, List.nil_append, List.length_take]; omega
  have HZ1 : Hid (l.take n = z1) := Lib.hid (by rw [← hz1]; rfl)
  obtain ⟨A1, c1', rfl, hc1⟩ := ho1.slice
  have hob1' : Hid (∀ k, (Value.slice A1 z1.length c1').ownBlock = some k → w.heap.size ≤ k) := Lib.hid fun k hk => by
    rcases hob1 with h | ⟨j, h, hj⟩
    · rw [h] at hk; simp [Value.ownBlock] at hk
    · rw [h] at hk; cases hk; exact hj
  have hbk1 := (hb1.block b hltb).trans H.out.blk
  have h01 := blk_cell hbk1 1
  simp only [rcell, List.getElem?_toArray, List.getElem?_cons_zero, List.getElem?_cons_succ] at h01
  have HBK1 := Lib.hid hbk1
  have HDa2 := Lib.hid fun h => (HDa.out h).below hb1
  have HDb2 := Lib.hid fun h => (HDb.out h).below hb1
  have HO1 := Lib.hid ho1; have HB1 := Lib.hid hb1
  have hlt1 := blk_lt hbk1
  clear hz1 ho1 hk1 hob1 hbk1 hb1 HDa HDb HT1 c1
  go_wp2_with (with_reducible (first | refine stop_append ?_))
  all_goals
    refine ⟨wp_append_view (r := rfE) Try.underlying78 infoFl rfl (by decide) (G := fun k => F k ∧ k < w.heap.size) (ys := l.drop (n + 1)) HO1.out (by simp [Act.eval, hz1l]) rfl (by first | exact HDa2.out (by assumption) | exact HDb2.out (by assumption)) (fun k hk e => by have := hob1'.out k e.symm; omega) (by rw [List.length_drop]; unfold maxLen; omega) (by rw [List.length_drop]; omega) ?_⟩
    intro v2 w2 ho2 hk2 _ hob2
    have HOB2 : Hid (∀ k, v2.ownBlock = some k → w.heap.size ≤ k) := Lib.hid fun k hk => by
      have hs12 := HB1.out.size
      rcases hob2 with h | ⟨j, h, hj⟩
      · exact hob1'.out k (by rw [← h]; exact hk)
      · rw [h] at hk; cases hk; omega
    have HB2 := HB1.out.size
    obtain ⟨z2, hz2⟩ : ∃ z, z1 ++ l.drop (n + 1) = z := ⟨_, rfl⟩
    rw [hz2] at ho2
    have HZ2 : Hid (dropAt dk.fs n = z2) := Lib.hid (by unfold dropAt; rw [HLL.out, HZ1.out, hz2])
    obtain ⟨A3, c3, rfl, hc3⟩ := ho2.slice
    have hk2' : Keep (fun k => w.heap.size ≤ k) w1 w2 := hk2.mono fun i _ e => hob1'.out i e.symm
    have hb2 := hk2'.blk HBK1.out (by show ¬ w.heap.size ≤ b; omega)
    have HB2' := Lib.hid hb2; have HO2 := Lib.hid ho2; have HK2 := Lib.hid hk2'
    have cb1 := blk_cell hb2 1
    have fb1 := blk_free hb2 1
    simp only [rcell, List.getElem?_toArray, List.getElem?_cons_zero, List.getElem?_cons_succ] at cb1
    have hlt2 := blk_lt hb2
    clear hb2 ho2 hk2' hk2 hz2 h01 hob2
    go_wp2_with fail
    obtain ⟨S, hS⟩ : ∃ S, Value.slice A3 z2.length c3 = S := ⟨_, rfl⟩
    rw [hS] at HO2 HOB2 ⊢
    have k3 := (Keep.refl (fun k => k = b) w2).set (p := ⟨b, 1, none⟩) rfl S
    have kF : Keep (fun j => j = b) w (w2.setCell ⟨b, 1, none⟩ S) := ((Keep.old (F := fun j => j = b) HB1.out).trans HK2.out (fun i hi h => by omega)).trans k3 (fun _ _ h => h)
    refine bodyPost_end (v := .tuple #[]) (by simp [results, Try.results60]) rfl (hR _ _ ⟨rfl, ⟨S, last, ⟨blk_set HB2'.out 1 S, ?_, fun e => e.elim H.out.out fun e => by omega, H.out.lok⟩, HOB2.out⟩, kF⟩)
    show Own rfE 95 _ _ (dropAt dk.fs n) S
    rw [HZ2.out]
    refine (HO2.out.keep k3 fun k h e => ?_).mono fun k h => ?_
    · have hnb := H.out.out
      rcases h with (h | h | h) | h | h
      · exact h
      · exact hnb (e ▸ h.1)
      · omega
      · exact hnb (e ▸ h.1)
      · omega
    · rcases h with (h | h | h) | h | h
      · exact h.elim
      · exact .inl h.1
      · exact .inr h
      · exact .inl h.1
      · exact .inr (by omega)
theorem without_any (h : RIn w F b dk lv last) (n : Nat) (hn : n < dk.fs.length) (hlen : dk.fs.length ≤ 1000) :
    Calls Try.prog 60 #[.pointer (some ⟨b, 0, none⟩), .int .i64 n] w fun e w' => e = .returned (.tuple #[]) ∧ RAt w' (fun j => F j ∨ w.heap.size ≤ j) b { dk with fs := dropAt dk.fs n } ∧ Keep (fun j => j = b) w w' :=
  (without_own h n hn hlen).mono fun _ _ ⟨h1, ⟨lv', last', h2, _⟩, h3⟩ => ⟨h1, ⟨lv', last', h2⟩, h3⟩
theorem ops_tick (dk : Dk) : dk.tick.ops = dk.ops + 1 := rfl
set_option maxHeartbeats 1000000 in
theorem rremove_any (h : RIn w F b dk lv last) (hO : Ord dk.fs) (ho : dk.ops ≤ 1000000) (hlen : dk.fs.length ≤ 1000) (T : ByteArray) (hT : T.size ≤ 1000000) :
    Calls Try.prog 45 #[.pointer (some ⟨b, 0, none⟩), .string T] w fun e w' => e = .returned (.int .i64 (dk.remove (toL T)).1) ∧ RAt w' (fun j => F j ∨ w.heap.size ≤ j) b (dk.remove (toL T)).2 ∧ Keep (fun j => j = b) w w' := by
  refine calls_gen fun R hR => ?_
  have H := Lib.hid h; have HO := Lib.hid hO
  have hltb := h.lt
  clear h hO
  go_enter Try.func45, Try.ntmps45
  go_wp2_with fail
  refine (off_any H.out ho).mono ?_
  rintro e w1 ⟨rfl, h1, hk1⟩
  have H1 := Lib.hid h1; have HK1 := Lib.hid hk1
  have hs1 := hk1.size
  clear h1 hk1
  cases hoff : dk.off with
  | true =>
    have hw : dk.remove (toL T) = (6, dk.tick) := by unfold Dk.remove; rw [if_pos hoff]
    rw [hw] at hR
    clear hw
    go_wp2_with fail
    go_ret
    exact hR _ _ ⟨rfl, ⟨lv, last, H1.out.mono (fun _ _ h => .inl h) fun h => h.elim H.out.out fun h => by omega⟩, HK1.out⟩
  | false =>
    go_wp2_with fail
    refine (find_any H1.out T hT hlen).mono ?_
    rintro e w2 ⟨rfl, hw2⟩
    rw [hw2]
    clear hw2
    have hp := pos_look (fs := dk.fs) (n := toL T)
    rw [show dk.tick.fs = dk.fs from rfl]
    cases hpo : pos dk.fs (toL T) with
    | none =>
      rw [hpo] at hp
      have hlk : look dk.fs (toL T) = none := hp
      have hw : dk.remove (toL T) = (4, dk.tick) := by unfold Dk.remove; rw [if_neg (by rw [hoff]; decide), hlk]
      rw [hw] at hR
      clear hw hlk hp hpo
      unfold posV
      go_wp2_with fail
      go_ret
      exact hR _ _ ⟨rfl, ⟨lv, last, H1.out.mono (fun _ _ h => .inl h) fun h => h.elim H.out.out fun h => by omega⟩, HK1.out⟩
    | some k =>
      rw [hpo] at hp
      obtain ⟨x, hx, hxn, hlk⟩ := hp
      have hw : dk.remove (toL T) = (0, { dk.tick with fs := dropF dk.fs (toL T) }) := by unfold Dk.remove; rw [if_neg (by rw [hoff]; decide), hlk]
      rw [hw] at hR
      have HDR := Lib.hid (dropAt_pos HO.out hpo)
      have hk : k < dk.fs.length := (List.getElem?_eq_some_iff.1 hx).1
      have hnn : ¬ (k : Int) < 0 := by omega
      clear hw hlk hpo hx hxn
      unfold posV
      go_wp2_with fail
      refine (without_any H1.out k hk hlen).mono ?_
      rintro e w3 ⟨rfl, h3, hk3⟩
      rw [show dk.tick.fs = dk.fs from rfl, HDR.out] at h3
      have H3 := Lib.hid h3; have HK3 := Lib.hid hk3
      clear h3 hk3
      go_wp2_with fail
      go_ret
      obtain ⟨lv3, last3, h3⟩ := H3.out
      exact hR _ _ ⟨rfl, ⟨lv3, last3, h3.mono (fun _ _ h => h.imp id fun h => by omega) fun h => h.elim H.out.out fun h => by omega⟩, HK1.out.trans HK3.out fun _ _ h => h⟩
end
end Go.Proofs.Ytlfcbhagbdonhaa.Asc
