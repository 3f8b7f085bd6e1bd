/-
  The law parapetlaw26.HttpSmuggles answers true.
  The library's MaxLen is a number.
-/
import Derived.Test.YtaihjnicondifaaDoorHtS
namespace Go.Proofs.YtaihjnicondifaaDoor.Asc
open Go Go.RowKit Go.Proofs.YtaihjnicondifaaDoor.Pb

def headsS : List (List UInt8) := [[72, 111, 115, 116, 58, 32, 97, 13, 10, 67, 111, 110, 116, 101, 110, 116, 45, 76, 101, 110, 103, 116, 104, 58, 32, 49, 13, 10, 67, 111, 110, 116, 101, 110, 116, 45, 76, 101, 110, 103, 116, 104, 58, 32, 50, 13, 10], [72, 111, 115, 116, 58, 32, 97, 13, 10, 67, 111, 110, 116, 101, 110, 116, 45, 76, 101, 110, 103, 116, 104, 58, 32, 49, 44, 32, 50, 13, 10], [72, 111, 115, 116, 58, 32, 97, 13, 10, 84, 114, 97, 110, 115, 102, 101, 114, 45, 69, 110, 99, 111, 100, 105, 110, 103, 58, 32, 99, 104, 117, 110, 107, 101, 100, 13, 10, 67, 111, 110, 116, 101, 110, 116, 45, 76, 101, 110, 103, 116, 104, 58, 32, 49, 13, 10], [72, 111, 115, 116, 58, 32, 97, 13, 10, 84, 114, 97, 110, 115, 102, 101, 114, 45, 69, 110, 99, 111, 100, 105, 110, 103, 58, 32, 103, 122, 105, 112, 13, 10], [72, 111, 115, 116, 58, 32, 97, 13, 10, 84, 114, 97, 110, 115, 102, 101, 114, 45, 69, 110, 99, 111, 100, 105, 110, 103, 58, 32, 99, 104, 117, 110, 107, 101, 100, 44, 32, 99, 104, 117, 110, 107, 101, 100, 13, 10], [], [72, 111, 115, 116, 58, 32, 97, 13, 10, 72, 79, 83, 84, 58, 32, 97, 13, 10], [72, 111, 115, 116, 58, 32, 97, 13, 10, 67, 111, 110, 116, 101, 110, 116, 45, 76, 101, 110, 103, 116, 104, 58, 32, 43, 49, 13, 10], [72, 111, 115, 116, 58, 32, 97, 13, 10, 67, 111, 110, 116, 101, 110, 116, 45, 76, 101, 110, 103, 116, 104, 58, 32, 48, 49, 44, 32, 49, 13, 10], [72, 111, 115, 116, 58, 32, 97, 13, 10, 32, 88, 58, 32, 121, 13, 10], [72, 111, 115, 116, 32, 58, 32, 97, 13, 10], [72, 111, 115, 116, 58, 32, 97, 13, 10, 67, 111, 110, 116, 101, 110, 116, 45, 76, 101, 110, 103, 116, 104, 58, 32, 49, 48, 52, 56, 53, 55, 55, 13, 10], [72, 111, 115, 116, 58, 32, 97, 13, 10, 67, 111, 110, 116, 101, 110, 116, 45, 76, 101, 110, 103, 116, 104, 58, 32, 57, 57, 57, 57, 57, 57, 57, 57, 57, 57, 57, 57, 57, 57, 57, 57, 57, 57, 57, 57, 13, 10], [72, 111, 115, 116, 58, 32, 97, 13, 10, 67, 111, 110, 116, 101, 110, 116, 45, 76, 101, 110, 103, 116, 104, 58, 13, 10], [72, 111, 115, 116, 58, 32, 97, 13, 10, 84, 114, 97, 110, 115, 102, 101, 114, 45, 69, 110, 99, 111, 100, 105, 110, 103, 58, 13, 10]]
def wantS : List Int := [400, 400, 400, 501, 501, 400, 400, 400, 400, 400, 400, 413, 413, 400, 501]
def smugP (t : List UInt8) : List UInt8 := ([80, 79, 83, 84, 32, 47, 32, 72, 84, 84, 80, 47, 49, 46, 49, 13, 10] ++ t) ++ [13, 10]
theorem smug_all : ∀ j : Fin 15, (feedN {} (smugP headsS[j])).2 = [badI wantS[j]] ∧ (feedN {} (smugP headsS[j])).1.over = true ∧ headsS[j].length ≤ 100 := by decide +kernel
theorem smug_at (j : Nat) (t : List UInt8) (n : Int) (hj : j < 15) (ht : headsS[j]? = some t) (hn : wantS[j]? = some n) (bh : List UInt8) : ((feedN {} (smugP t ++ bh)).2 = [badI n] ∧ (feedN {} (smugP t ++ bh)).1.over = true) ∧ t.length ≤ 100 := by
  obtain ⟨h1, h2, h3⟩ := smug_all ⟨j, hj⟩
  have e : headsS[j]'hj = t := by rw [List.getElem?_eq_getElem (show j < headsS.length from hj)] at ht; exact Option.some.inj ht
  have e2 : wantS[j]'hj = n := by rw [List.getElem?_eq_getElem (show j < wantS.length from hj)] at hn; exact Option.some.inj hn
  have h1' : (feedN {} (smugP t)).2 = [badI n] := by rw [← e, ← e2]; exact h1
  have h2' : (feedN {} (smugP t)).1.over = true := by rw [← e]; exact h2
  refine ⟨?_, by rw [← e]; exact h3⟩
  rw [feedN_app, feedN_over bh _ h2']
  exact ⟨by rw [h1']; rfl, h2'⟩

set_option maxRecDepth 20000 in
set_option maxHeartbeats 8000000 in
theorem smug_walk (k : Int) (bh : ByteArray) (hbs : bh.size ≤ 140737488351232) (m : Int) (w : World) (hm : MaxLen m w) :
    Calls Tryd.prog 6 #[.int .i64 k, .string bh] w fun e w' => e = .returned (.bool true) ∧ Below w.heap.size w w' := by
  refine calls_gen fun R hR => ?_
  have HM := Lib.hid hm
  clear hm
  go_enter Tryd.func6, Tryd.ntmps6
  by_cases hbig : (bh.size : Int) > 1000
  · go_wp2_with fail
    refine (awake_any _ m HM.out).mono ?_
    rintro e w3 ⟨rfl, hb3⟩
    go_wp2_with fail
    go_ret
    exact hR _ _ ⟨rfl, hb3⟩
  obtain ⟨w1, hw1⟩ : ∃ w1, w.alloc (.cells #[.string ⟨#[72, 111, 115, 116, 58, 32, 97, 13, 10, 67, 111, 110, 116, 101, 110, 116, 45, 76, 101, 110, 103, 116, 104, 58, 32, 49, 13, 10, 67, 111, 110, 116, 101, 110, 116, 45, 76, 101, 110, 103, 116, 104, 58, 32, 50, 13, 10]⟩, .string ⟨#[72, 111, 115, 116, 58, 32, 97, 13, 10, 67, 111, 110, 116, 101, 110, 116, 45, 76, 101, 110, 103, 116, 104, 58, 32, 49, 44, 32, 50, 13, 10]⟩, .string ⟨#[72, 111, 115, 116, 58, 32, 97, 13, 10, 84, 114, 97, 110, 115, 102, 101, 114, 45, 69, 110, 99, 111, 100, 105, 110, 103, 58, 32, 99, 104, 117, 110, 107, 101, 100, 13, 10, 67, 111, 110, 116, 101, 110, 116, 45, 76, 101, 110, 103, 116, 104, 58, 32, 49, 13, 10]⟩, .string ⟨#[72, 111, 115, 116, 58, 32, 97, 13, 10, 84, 114, 97, 110, 115, 102, 101, 114, 45, 69, 110, 99, 111, 100, 105, 110, 103, 58, 32, 103, 122, 105, 112, 13, 10]⟩, .string ⟨#[72, 111, 115, 116, 58, 32, 97, 13, 10, 84, 114, 97, 110, 115, 102, 101, 114, 45, 69, 110, 99, 111, 100, 105, 110, 103, 58, 32, 99, 104, 117, 110, 107, 101, 100, 44, 32, 99, 104, 117, 110, 107, 101, 100, 13, 10]⟩, .string ⟨#[]⟩, .string ⟨#[72, 111, 115, 116, 58, 32, 97, 13, 10, 72, 79, 83, 84, 58, 32, 97, 13, 10]⟩, .string ⟨#[72, 111, 115, 116, 58, 32, 97, 13, 10, 67, 111, 110, 116, 101, 110, 116, 45, 76, 101, 110, 103, 116, 104, 58, 32, 43, 49, 13, 10]⟩, .string ⟨#[72, 111, 115, 116, 58, 32, 97, 13, 10, 67, 111, 110, 116, 101, 110, 116, 45, 76, 101, 110, 103, 116, 104, 58, 32, 48, 49, 44, 32, 49, 13, 10]⟩, .string ⟨#[72, 111, 115, 116, 58, 32, 97, 13, 10, 32, 88, 58, 32, 121, 13, 10]⟩, .string ⟨#[72, 111, 115, 116, 32, 58, 32, 97, 13, 10]⟩, .string ⟨#[72, 111, 115, 116, 58, 32, 97, 13, 10, 67, 111, 110, 116, 101, 110, 116, 45, 76, 101, 110, 103, 116, 104, 58, 32, 49, 48, 52, 56, 53, 55, 55, 13, 10]⟩, .string ⟨#[72, 111, 115, 116, 58, 32, 97, 13, 10, 67, 111, 110, 116, 101, 110, 116, 45, 76, 101, 110, 103, 116, 104, 58, 32, 57, 57, 57, 57, 57, 57, 57, 57, 57, 57, 57, 57, 57, 57, 57, 57, 57, 57, 57, 57, 13, 10]⟩, .string ⟨#[72, 111, 115, 116, 58, 32, 97, 13, 10, 67, 111, 110, 116, 101, 110, 116, 45, 76, 101, 110, 103, 116, 104, 58, 13, 10]⟩, .string ⟨#[72, 111, 115, 116, 58, 32, 97, 13, 10, 84, 114, 97, 110, 115, 102, 101, 114, 45, 69, 110, 99, 111, 100, 105, 110, 103, 58, 13, 10]⟩] 9) = w1 := ⟨_, rfl⟩
  have HW1 := Lib.hid hw1
  have HB1 : Hid (Below w.heap.size w w1) := Lib.hid (hw1 ▸ below_new w _)
  have HL : Hid (∀ j t, headsS[j]? = some t → w1.cell? ⟨w.heap.size, j, none⟩ = some (.string (ofL t))) := Lib.hid (hw1 ▸ fun j t ht => lits_at (texts_lit w headsS _ rfl (by simp [headsS]) 15 rfl) j t ht)
  have hgl : w.heap.size < w1.heap.size := by rw [← hw1]; simp
  clear hw1
  obtain ⟨w2, hw2⟩ : ∃ w2, w1.alloc (.cells #[.int .i64 400, .int .i64 400, .int .i64 400, .int .i64 501, .int .i64 501, .int .i64 400, .int .i64 400, .int .i64 400, .int .i64 400, .int .i64 400, .int .i64 400, .int .i64 413, .int .i64 413, .int .i64 400, .int .i64 501] 3) = w2 := ⟨_, rfl⟩
  have HW2 := Lib.hid hw2
  have HB2 : Hid (Below w.heap.size w w2) := Lib.hid (hw2 ▸ HB1.out.trans ((below_new w1 _).mono HB1.out.size))
  have HB12 : Hid (Below w1.heap.size w1 w2) := Lib.hid (hw2 ▸ below_new w1 _)
  have HL2 : Hid (∀ (j : Nat) (n : Int), wantS[j]? = some n → w2.cell? ⟨w1.heap.size, j, none⟩ = some (.int .i64 n)) := Lib.hid (hw2 ▸ fun j n hn => (blk_cell (blk_new w1 _) j).trans (by
    rw [← Array.getElem?_toList]
    show (wantS.map (Value.int .i64))[j]? = _
    rw [List.getElem?_map, hn]; rfl))
  have hgl2 : w1.heap.size < w2.heap.size := by rw [← hw2]; simp
  clear hw2
  go_upto_region 4 with fail
  rw [HW1.out]
  go_upto_region 5 with fail
  rw [HW2.out]
  obtain ⟨g6, hg6⟩ : ∃ g, w1.heap.size = g := ⟨_, rfl⟩
  rw [hg6] at HL2 hgl2 ⊢
  have hj1 := Int.emod_nonneg k (show (15 : Int) ≠ 0 by decide)
  have hj2 := Int.emod_lt_of_pos k (show (0 : Int) < 15 by decide)
  obtain ⟨j, hj⟩ := Int.eq_ofNat_of_zero_le hj1
  have HJ := Lib.hid hj
  rw [hj] at hj2
  have hj15 : j < 15 := by omega
  clear hj hj1
  obtain ⟨t, ht⟩ : ∃ t, headsS[j]? = some t := ⟨_, List.getElem?_eq_getElem (show j < headsS.length from hj15)⟩
  obtain ⟨n, hn⟩ : ∃ n, wantS[j]? = some n := ⟨_, List.getElem?_eq_getElem (show j < wantS.length from hj15)⟩
  have d0 := (HB12.out.cell (p := ⟨w.heap.size, j, none⟩) hgl).trans (HL.out j t ht)
  have d6 := HL2.out j n hn
  have hsm := smug_at j t n hj15 ht hn (toL bh)
  obtain ⟨T, hT⟩ : ∃ T, ofL t = T := ⟨_, rfl⟩
  rw [hT] at d0
  have HX : Hid (∀ Y : ByteArray, toL Y = smugP (toL T) ++ toL bh → (feedN {} (toL Y)).2 = [badI n] ∧ (feedN {} (toL Y)).1.over = true) := Lib.hid fun Y hY => by rw [hY, ← hT, toL_ofL]; exact hsm.1
  have hts : T.size ≤ 100 := by rw [← hT, ofL_size]; exact hsm.2
  have HXN : Hid (∀ Y : ByteArray, toL Y = smugP (toL T) ++ toL bh → Y.size ≤ 100000) := Lib.hid fun Y hY => by
    rw [← toL_len, hY]
    have h1 := toL_len T; have h2 := toL_len bh
    simp only [smugP, List.length_append, List.length_cons, List.length_nil]; omega
  have HD6 := Lib.hid d6
  clear hsm hT ht hn d6
  have hglw : w.heap.size < w2.heap.size := Nat.lt_of_lt_of_le hgl HB12.out.size
  have hbs2 : bh.size ≤ 1000 := by omega
  go_wp2_with fail
  refine (round_any k 15 (by decide) (by decide) w2).mono ?_
  rintro e w' ⟨rfl, rfl⟩
  rw [HJ.out]
  go_wp2_with fail
  refine (feed_at _ 7 (by decide) (by decide) (HXN.out _ (by simp only [toL_cat]; rfl)) _ m (HM.out.below HB2.out) [badI n] true (HX.out _ (by simp only [toL_cat]; rfl))).mono ?_
  rintro e w3 ⟨v, O, rfl, ho, -, hb3⟩
  obtain ⟨g, c, rfl, -, hc, hg, hget⟩ := own_items ho (by simp)
  obtain ⟨fv, hcc⟩ := hget 0 _ rfl
  have c0 : w3.cell? ⟨g, 0, none⟩ = some (.int .i64 n) := hcc.c0
  have d6 : w3.cell? ⟨g6, j, none⟩ = some (.int .i64 n) := (hb3.cell (p := ⟨g6, j, none⟩) hgl2).trans HD6.out
  have HB3 := Lib.hid (HB2.out.trans (hb3.mono HB2.out.size))
  have HM3 := Lib.hid (HM.out.below HB3.out)
  have hgl3 := Nat.lt_of_lt_of_le hgl2 hb3.size
  clear hget hcc hb3 ho d0
  simp only [List.length_cons, List.length_nil, Nat.zero_add] at hc ⊢
  go_upto_region 7 with fail
  have hji : (j : Int) < 15 := by omega
  have hj0 : (0 : Int) ≤ (j : Int) := by omega
  have hjt : ((j : Int)).toNat = j := by omega
  refine wp_region_any (by kernel_rfl) ?_
  refine region_ext [(fun vv _ => vv = .bool true), (fun vv _ => vv = .bool true), (fun vv _ => vv = .slice (some ⟨g, 0, none⟩) 1 c), (fun vv _ => vv = .int .i64 1), (fun vv _ => vv = .bool true), (fun vv _ => vv = .bool true), (fun vv _ => vv = .bool true), (fun vv _ => vv = .slice (some ⟨g, 0, none⟩) 1 c), (fun vv _ => vv = .pointer (some ⟨g, 0, none⟩)), (fun vv _ => vv = .pointer (some ⟨g, 0, none⟩)), (fun vv _ => vv = .int .i64 n), (fun vv _ => vv = .slice (some ⟨g6, 0, none⟩) 15 15), (fun vv _ => vv = .int .i64 j), (fun vv _ => vv = .pointer (some ⟨g6, j, none⟩)), (fun vv _ => vv = .int .i64 n), (fun vv _ => vv = .bool true), (fun vv _ => vv = .bool true), (fun vv _ => vv = .bool true), (fun vv _ => vv = .bool true), (fun vv _ => vv = .bool true)]
    [[], [(0, 31)], [(1, 32)], [(1, 32), (2, 33)], [(1, 32), (3, 34)], [(1, 32), (4, 35)], [(5, 36)], [(6, 37)], [(6, 37), (7, 38)], [(6, 37), (8, 39)], [(6, 37), (9, 40)], [(6, 37)], [(6, 37)], [(6, 37), (11, 42), (12, 43)], [(6, 37), (13, 44)], [(6, 37), (10, 41), (14, 45)], [(6, 37), (15, 46)], [(16, 47)], [(17, 48)], [(17, 48), (18, 49)], []]
    [none, none, some (32, true), some (32, true), some (32, true), none, none, some (37, true), some (37, true), some (37, true), some (37, true), some (37, true), some (37, true), some (37, true), some (37, true), some (37, true), none, none, some (48, true), none, none]
    [some 31, some 32, some 33, some 34, some 35, some 36, some 37, some 38, some 39, some 40, some 41, some 42, some 43, some 44, some 45, some 46, some 47, some 48, some 49, some 50] 20 (by kernel_rfl) (by kernel_rfl) (by kernel_rfl) rfl (by kernel_rfl) ?_ ?_ ?_
  · exact ⟨fun _ _ _ _ h => h, fun _ _ _ _ h => h, fun _ _ _ _ h => h, fun _ _ _ _ h => h, fun _ _ _ _ h => h, fun _ _ _ _ h => h, fun _ _ _ _ h => h, fun _ _ _ _ h => h, fun _ _ _ _ h => h, fun _ _ _ _ h => h, fun _ _ _ _ h => h, fun _ _ _ _ h => h, fun _ _ _ _ h => h, fun _ _ _ _ h => h, fun _ _ _ _ h => h, fun _ _ _ _ h => h, fun _ _ _ _ h => h, fun _ _ _ _ h => h, fun _ _ _ _ h => h, fun _ _ _ _ h => h, trivial⟩
  · refine ⟨fun ρ wx _ hx _ => gives_move (hx (.tmp 8) (by simp)), fun ρ wx _ _ hd => gives_move hd.1, ?_, ?_, ?_, ?_, fun ρ wx _ _ hd => gives_move hd.1, ?_, ?_, ?_, ?_, ?_, ?_, ?_, ?_, ?_, ?_, fun ρ wx _ _ hd => gives_move hd.1, ?_, ?_, trivial⟩
    · intro ρ wx hE hx hd
      replace hE := Ext.undrew hE
      have e32 : ρ (.tmp 32) = .bool true := hd.1
      have e7 : ρ (.tmp 7) = .slice (some ⟨g, 0, none⟩) 1 c := hx (.tmp 7) (by simp)
      refine .inl ⟨e32, ?_⟩
      exact gives_val (G := fun vv _ => vv = .slice (some ⟨g, 0, none⟩) 1 c) (v := .slice (some ⟨g, 0, none⟩) 1 c) (by simp [execOp, e32, e7, go_sem]) rfl
    · intro ρ wx hE hx hd
      replace hE := Ext.undrew hE
      have e32 : ρ (.tmp 32) = .bool true := hd.1
      have e33 : ρ (.tmp 33) = .slice (some ⟨g, 0, none⟩) 1 c := hd.2.1
      refine .inl ⟨e32, ?_⟩
      exact gives_val (G := fun vv _ => vv = .int .i64 1) (v := .int .i64 1) (by simp [execOp, e32, e33, go_sem]) rfl
    · intro ρ wx hE hx hd
      replace hE := Ext.undrew hE
      have e32 : ρ (.tmp 32) = .bool true := hd.1
      have e34 : ρ (.tmp 34) = .int .i64 1 := hd.2.1
      have hk : ∀ v, ρ (.const v) = v := fun v => (hx (.const v) (by simp)).trans rfl
      refine .inl ⟨e32, ?_⟩
      exact gives_val (G := fun vv _ => vv = .bool true) (v := .bool true) (by simp [execOp, e32, e34, hk, go_sem]) rfl
    · intro ρ wx hE hx hd
      replace hE := Ext.undrew hE
      have e32 : ρ (.tmp 32) = .bool true := hd.1
      have e35 : ρ (.tmp 35) = .bool true := hd.2.1
      have hk : ∀ v, ρ (.const v) = v := fun v => (hx (.const v) (by simp)).trans rfl
      exact gives_val (G := fun vv _ => vv = .bool true) (v := .bool true) (by simp [execOp, e32, e35, hk, go_sem]) rfl
    · intro ρ wx hE hx hd
      replace hE := Ext.undrew hE
      have e37 : ρ (.tmp 37) = .bool true := hd.1
      have e7 : ρ (.tmp 7) = .slice (some ⟨g, 0, none⟩) 1 c := hx (.tmp 7) (by simp)
      refine .inl ⟨e37, ?_⟩
      exact gives_val (G := fun vv _ => vv = .slice (some ⟨g, 0, none⟩) 1 c) (v := .slice (some ⟨g, 0, none⟩) 1 c) (by simp [execOp, e37, e7, go_sem]) rfl
    · intro ρ wx hE hx hd
      replace hE := Ext.undrew hE
      have e37 : ρ (.tmp 37) = .bool true := hd.1
      have e38 : ρ (.tmp 38) = .slice (some ⟨g, 0, none⟩) 1 c := hd.2.1
      have hk : ∀ v, ρ (.const v) = v := fun v => (hx (.const v) (by simp)).trans rfl
      refine .inl ⟨e37, ?_⟩
      exact gives_val (G := fun vv _ => vv = .pointer (some ⟨g, 0, none⟩)) (v := .pointer (some ⟨g, 0, none⟩)) (by simp [execOp, e37, e38, hk, go_sem]) rfl
    · intro ρ wx hE hx hd
      replace hE := Ext.undrew hE
      have e37 : ρ (.tmp 37) = .bool true := hd.1
      have e39 : ρ (.tmp 39) = .pointer (some ⟨g, 0, none⟩) := hd.2.1
      refine .inl ⟨e37, ?_⟩
      exact gives_val (G := fun vv _ => vv = .pointer (some ⟨g, 0, none⟩)) (v := .pointer (some ⟨g, 0, none⟩)) (by simp [execOp, e37, e39, go_sem]) rfl
    · intro ρ wx hE hx hd
      replace hE := Ext.undrew hE
      have e37 : ρ (.tmp 37) = .bool true := hd.1
      have e40 : ρ (.tmp 40) = .pointer (some ⟨g, 0, none⟩) := hd.2.1
      refine .inl ⟨e37, ?_⟩
      have hcl := ext_cell hE c0
      exact gives_val (G := fun vv _ => vv = .int .i64 n) (v := .int .i64 n) (by simp [execOp, e37, e40, hcl, go_sem]) rfl
    · intro ρ wx hE hx hd
      replace hE := Ext.undrew hE
      have e37 : ρ (.tmp 37) = .bool true := hd.1
      have e6 : ρ (.tmp 6) = .slice (some ⟨g6, 0, none⟩) 15 15 := hx (.tmp 6) (by simp)
      refine .inl ⟨e37, ?_⟩
      exact gives_val (G := fun vv _ => vv = .slice (some ⟨g6, 0, none⟩) 15 15) (v := .slice (some ⟨g6, 0, none⟩) 15 15) (by simp [execOp, e37, e6, go_sem]) rfl
    · intro ρ wx hE hx hd
      replace hE := Ext.undrew hE
      have e37 : ρ (.tmp 37) = .bool true := hd.1
      have e0 : ρ (.tmp 0) = .int .i64 j := hx (.tmp 0) (by simp)
      refine .inl ⟨e37, ?_⟩
      exact gives_val (G := fun vv _ => vv = .int .i64 j) (v := .int .i64 j) (by simp [execOp, e37, e0, go_sem]) rfl
    · intro ρ wx hE hx hd
      replace hE := Ext.undrew hE
      have e37 : ρ (.tmp 37) = .bool true := hd.1
      have e42 : ρ (.tmp 42) = .slice (some ⟨g6, 0, none⟩) 15 15 := hd.2.1
      have e43 : ρ (.tmp 43) = .int .i64 j := hd.2.2.1
      refine .inl ⟨e37, ?_⟩
      exact gives_val (G := fun vv _ => vv = .pointer (some ⟨g6, j, none⟩)) (v := .pointer (some ⟨g6, j, none⟩)) (by simp [execOp, e37, e42, e43, hji, hj0, hjt, hj15, go_sem]) rfl
    · intro ρ wx hE hx hd
      replace hE := Ext.undrew hE
      have e37 : ρ (.tmp 37) = .bool true := hd.1
      have e44 : ρ (.tmp 44) = .pointer (some ⟨g6, j, none⟩) := hd.2.1
      refine .inl ⟨e37, ?_⟩
      have hcl := ext_cell hE d6
      exact gives_val (G := fun vv _ => vv = .int .i64 n) (v := .int .i64 n) (by simp [execOp, e37, e44, hcl, go_sem]) rfl
    · intro ρ wx hE hx hd
      replace hE := Ext.undrew hE
      have e37 : ρ (.tmp 37) = .bool true := hd.1
      have e41 : ρ (.tmp 41) = .int .i64 n := hd.2.1
      have e45 : ρ (.tmp 45) = .int .i64 n := hd.2.2.1
      refine .inl ⟨e37, ?_⟩
      exact gives_val (G := fun vv _ => vv = .bool true) (v := .bool true) (by simp [execOp, e37, e41, e45, go_sem]) rfl
    · intro ρ wx hE hx hd
      replace hE := Ext.undrew hE
      have e37 : ρ (.tmp 37) = .bool true := hd.1
      have e46 : ρ (.tmp 46) = .bool true := hd.2.1
      have hk : ∀ v, ρ (.const v) = v := fun v => (hx (.const v) (by simp)).trans rfl
      exact gives_val (G := fun vv _ => vv = .bool true) (v := .bool true) (by simp [execOp, e37, e46, hk, go_sem]) rfl
    · intro ρ wx hE hx hd
      replace hE := Ext.undrew hE
      have e48 : ρ (.tmp 48) = .bool true := hd.1
      have hf : ∀ f, ρ (.func f) = .func (.func f) #[] #[] := fun f => (hx (.func f) (by simp)).trans rfl
      refine .inl ⟨e48, ?_⟩
      refine gives_call (G := fun vv _ => vv = .bool true) (by simp [execOp, e48, hf, go_sem] <;> first | exact ⟨rfl, rfl⟩ | exact rfl) ?_
      exact call_below (awake_any wx m (HM3.out.below hE))
    · intro ρ wx hE hx hd
      replace hE := Ext.undrew hE
      have e48 : ρ (.tmp 48) = .bool true := hd.1
      have e49 : ρ (.tmp 49) = .bool true := hd.2.1
      have hk : ∀ v, ρ (.const v) = v := fun v => (hx (.const v) (by simp)).trans rfl
      exact gives_val (G := fun vv _ => vv = .bool true) (v := .bool true) (by simp [execOp, e48, e49, hk, go_sem]) rfl
  intro wx hE
  refine fun v31 (e31 : v31 = .bool true) => ?_
  refine fun v32 (e32 : v32 = .bool true) => ?_
  refine fun v33 (e33 : v33 = .slice (some ⟨g, 0, none⟩) 1 c) => ?_
  refine fun v34 (e34 : v34 = .int .i64 1) => ?_
  refine fun v35 (e35 : v35 = .bool true) => ?_
  refine fun v36 (e36 : v36 = .bool true) => ?_
  refine fun v37 (e37 : v37 = .bool true) => ?_
  refine fun v38 (e38 : v38 = .slice (some ⟨g, 0, none⟩) 1 c) => ?_
  refine fun v39 (e39 : v39 = .pointer (some ⟨g, 0, none⟩)) => ?_
  refine fun v40 (e40 : v40 = .pointer (some ⟨g, 0, none⟩)) => ?_
  refine fun v41 (e41 : v41 = .int .i64 n) => ?_
  refine fun v42 (e42 : v42 = .slice (some ⟨g6, 0, none⟩) 15 15) => ?_
  refine fun v43 (e43 : v43 = .int .i64 j) => ?_
  refine fun v44 (e44 : v44 = .pointer (some ⟨g6, j, none⟩)) => ?_
  refine fun v45 (e45 : v45 = .int .i64 n) => ?_
  refine fun v46 (e46 : v46 = .bool true) => ?_
  refine fun v47 (e47 : v47 = .bool true) => ?_
  refine fun v48 (e48 : v48 = .bool true) => ?_
  refine fun v49 (e49 : v49 = .bool true) => ?_
  refine fun v50 (e50 : v50 = .bool true) => ?_
  subst e31 e32 e33 e34 e35 e36 e37 e38 e39 e40 e41 e42 e43 e44 e45 e46 e47 e48 e49 e50
  refine rest_nil ?_
  simp only [List.drop_succ_cons, List.drop_zero, Act.put, List.setIfInBounds_toArray, List.set_cons_zero, List.set_cons_succ]
  go_wp2_with fail
  go_ret
  exact hR _ _ ⟨rfl, HB3.out.trans (hE.mono HB3.out.size)⟩
theorem smug_row {w : World} (k : Int) (_ : -9223372036854775808 ≤ k) (_ : k ≤ 9223372036854775807) (bh : ByteArray) (hbs : bh.size ≤ 140737488351232) (m : Int) (hm : MaxLen m w) :
    Calls Tryd.prog 6 #[.int .i64 k, .string bh] w fun e w' => e = .returned (.bool true) ∧ Below w.heap.size w w' := smug_walk k bh hbs m w hm
end Go.Proofs.YtaihjnicondifaaDoor.Asc
