/-
  The law parapetlaw4.DiskApart answers true.
  Lengths within the rows' own reach.
-/
import Derived.Test.YtlfcbhagbdonhaaDkQ
namespace Go.Proofs.Ytlfcbhagbdonhaa.Asc
set_option linter.unusedSimpArgs false
set_option linter.unusedVariables false
open Go Go.RowKit Go.Proofs.Ytlfcbhagbdonhaa.Pb

theorem remove_only (room : Int) (n : Tx) (X : List UInt8) (k ops : Nat) :
    ({ room := room, fs := [⟨n, X, k⟩], ops := ops } : Dk).remove n = (0, { room := room, fs := [], ops := ops + 1 }) := by
  unfold Dk.remove Dk.off
  simp [look, Dk.tick, dropF]
theorem crash_whole (room : Int) (n : Tx) (X : List UInt8) (ops : Nat) (ps : List Int) :
    ({ room := room, fs := [⟨n, X, X.length⟩], ops := ops } : Dk).crash ps = { room := room, fs := [⟨n, X, X.length⟩] } := by
  rw [crash_only, crash1_zero _ _ (Nat.sub_self _)]
  unfold crashed
  rw [Nat.add_zero, List.take_length]
theorem append_at {w : World} {S : Nat → Prop} {d : Nat} {dk : Dk} (h : DAt w S d dk) (ho : dk.ops ≤ 1000000) (hu : usedN dk.fs ≤ 1000000000) (hlen : dk.fs.length ≤ 1000) (T : ByteArray) (hT : T.size ≤ 1000000)
    (parts : List (List UInt8)) (pv : Value) (F : Nat → Prop) (hv : View Rp.u8.view w F parts pv) (hF : ¬ F d) (hpl : parts.length ≤ 1000000) (hps : lenSum parts parts.length ≤ 1000000) {E : Int} {dk' : Dk} (he : dk.append (toL T) parts.flatten = (E, dk')) :
    Calls Try.prog 11 #[.pointer (some ⟨d, 0, none⟩), .string T, pv] w fun e w' => e = .returned (.int .i64 E) ∧ DAt w' (fun k => S k ∨ w.heap.size ≤ k) d dk' ∧ Keep (fun k => S k ∨ k = d) w w' := by
  obtain ⟨g, tag, mv, hd⟩ := h
  refine (append_any hd ho hu hlen T hT parts pv F hv hF hpl hps).mono ?_
  rw [he]
  rintro e w' ⟨h1, h2, h3⟩
  exact ⟨h1, h2, h3⟩
theorem remove_at {w : World} {S : Nat → Prop} {d : Nat} {dk : Dk} (h : DAt w S d dk) (ho : dk.ops ≤ 1000000) (T : ByteArray) (hT : T.size ≤ 1000000) {E : Int} {dk' : Dk} (he : dk.remove (toL T) = (E, dk')) :
    Calls Try.prog 19 #[.pointer (some ⟨d, 0, none⟩), .string T] w fun e w' => e = .returned (.int .i64 E) ∧ DAt w' (fun k => S k ∨ w.heap.size ≤ k) d dk' ∧ Keep (fun k => S k ∨ k = d) w w' := by
  obtain ⟨g, tag, mv, hd⟩ := h
  refine (remove_any hd ho T hT).mono ?_
  rw [he]
  rintro e w' ⟨h1, h2, h3⟩
  exact ⟨h1, h2, h3⟩
theorem read_at {w : World} {S : Nat → Prop} {d : Nat} {dk : Dk} (h : DAt w S d dk) (T : ByteArray) (hT : T.size ≤ 1000000) (hl : ∀ f ∈ dk.fs, f.b.length ≤ 140737488351232) {E : Int} {b : List UInt8} (he : (match look dk.fs (toL T) with | none => (4, []) | some f => ((0 : Int), f.b)) = (E, b)) :
    Calls Try.prog 14 #[.pointer (some ⟨d, 0, none⟩), .string T] w fun e w' => ∃ u, e = .returned (.tuple #[u, .int .i64 E]) ∧ Own Rp.u8 5 w' (w.heap.size ≤ ·) b u ∧ Below w.heap.size w w' := by
  obtain ⟨g, tag, mv, hd⟩ := h
  refine (read_any hd T hT hl).mono ?_
  rintro e w' ⟨u, h1, h2, h3⟩
  cases hl : look dk.fs (toL T) with
  | none => rw [hl] at he h1 h2; cases he; exact ⟨u, h1, h2, h3⟩
  | some f => rw [hl] at he h1 h2; cases he; exact ⟨u, h1, h2, h3⟩
theorem ops_at {w : World} {S : Nat → Prop} {d : Nat} {dk : Dk} (h : DAt w S d dk) {n : Int} (hn : (dk.ops : Int) = n) :
    Calls Try.prog 20 #[.pointer (some ⟨d, 0, none⟩)] w fun e w' => e = .returned (.int .i64 n) ∧ w' = w := by
  obtain ⟨g, tag, mv, hd⟩ := h
  rw [← hn]
  exact ops_any hd

set_option maxHeartbeats 8000000 in
set_option maxRecDepth 20000 in
theorem apart_walk {w : World} (n : Int) (ps : List Int) (pv : Value) (F : Nat → Prop) (hp : View Rp.int w F ps pv) :
    Calls Try.prog 5 #[.int .i64 n, pv] w fun e w' => e = .returned (.bool true) ∧ Below w.heap.size w w' := by
  refine calls_gen fun R hR => ?_
  obtain ⟨PA, pc, rfl, hpc, _⟩ := hp.open1
  have HP := Lib.hid hp
  clear hp
  by_cases h1 : n < 0
  · go_enter Try.func5, Try.ntmps5
    go_wp2_with fail
    refine (awake4_any w).mono ?_
    rintro e w1 ⟨rfl, hb1⟩
    go_wp2_with fail
    go_ret
    exact hR _ _ ⟨rfl, hb1⟩
  by_cases h2 : n > 500
  · go_enter Try.func5, Try.ntmps5
    go_wp2_with fail
    refine (awake4_any w).mono ?_
    rintro e w1 ⟨rfl, hb1⟩
    go_wp2_with fail
    go_ret
    exact hR _ _ ⟨rfl, hb1⟩
  by_cases h5 : (ps.length : Int) > 20
  · go_enter Try.func5, Try.ntmps5
    go_wp2_with fail
    refine (awake4_any w).mono ?_
    rintro e w1 ⟨rfl, hb1⟩
    go_wp2_with fail
    go_ret
    exact hR _ _ ⟨rfl, hb1⟩
  obtain ⟨n, rfl⟩ := Int.eq_ofNat_of_zero_le (show 0 ≤ n by omega)
  have hn5 : n ≤ 500 := by omega
  have kc := fun (w : World) (C : Array Value) (n c : Nat) => Lib.run_convert_bytes_const (P := Try.prog) w 28 5 C n c Try.underlying28 Try.underlying5
  have KC := Lib.hid kc
  clear kc
  obtain ⟨d0, hd0⟩ : ∃ d0, w.heap.size = d0 := ⟨_, rfl⟩
  rw [hd0] at hR
  have HF : Hid (toL ⟨#[102]⟩ = [102]) := rfl
  go_enter Try.func5, Try.ntmps5
  go_wp2_with fail
  clear h1 h2
  refine (new_any 5000 w).mono ?_
  rintro e w1 ⟨_, h1⟩
  obtain ⟨rfl, hd1, hb1⟩ := h1 (by decide) (by decide)
  rw [hd0] at hd1 hb1 ⊢
  have HD1 : Hid (One (fun _ => False) w w1 d0 { room := 5000 }) := Lib.hid ⟨(DAt.now ⟨_, _, _, hd1⟩ fun _ h => h).mono (fun k _ h => ⟨h.1, h.2, fun h => h⟩) (fun h => by omega), hb1⟩
  have HD0 := Lib.hid hd0
  clear h1 hd1 hb1 hd0
  go_wp2_with fail
  refine (bytes4_any (n : Int) n (by omega) 1 w1 (by omega) (by decide) (by decide)).mono ?_
  rintro e w2 ⟨rfl, hv2, hb2, hz2⟩
  have hlt1 := HD1.out.lt
  obtain ⟨n1, hn1⟩ : ∃ n, w1.heap.size = n := ⟨_, rfl⟩
  have HD2 := Lib.hid (HD1.out.below (P' := fun _ => False) hb2 (fun k h => h.elim))
  rw [hn1] at hv2 hz2 hlt1 ⊢
  obtain ⟨L, hL⟩ : ∃ L, lawB n 1 = L := ⟨_, rfl⟩
  have hLl : L.length = n := by rw [← hL, lawB_len]
  rw [hL] at hv2
  have HV2 := Lib.hid hv2; have HN1 := Lib.hid hlt1; have HLL := Lib.hid hLl; have HL := Lib.hid hL
  clear hv2 hb2 hn1 hL hLl HD1
  obtain ⟨n2, hn2⟩ : ∃ n, w2.heap.size = n := ⟨_, rfl⟩
  have HZ2 : Hid (d0 < n2) := Lib.hid (by omega)
  clear hlt1 hz2
  go_wp2_with fail
  have hb3 := below_new w2 (.cells #[.slice (some ⟨n1, 0, none⟩) n n] 28)
  have hg3 := blk_new w2 (.cells #[.slice (some ⟨n1, 0, none⟩) n n] 28)
  obtain ⟨w3, hw3⟩ : ∃ w3, w2.alloc (.cells #[.slice (some ⟨n1, 0, none⟩) n n] 28) = w3 := ⟨_, rfl⟩
  rw [hw3] at hb3 hg3 ⊢
  rw [hn2] at hg3
  have HVP := Lib.hid (view_rows1 hg3 ((HV2.out.below hb3).mono (F' := fun k => k = n1 ∨ k = n2) fun k h => .inl h) (.inr rfl))
  have HD3 := Lib.hid (HD2.out.below (P' := fun _ => False) hb3 (fun k h => h.elim))
  clear hw3 hb3 hg3 HV2 HD2
  refine (append_one HD3.out (fun k h => h.elim) (by decide) (by decide) (by decide) ⟨#[102]⟩ (by decide) [L] _ _ HVP.out (fun h => by have := HN1.out; have := HZ2.out; omega) (by simp) (by rw [lenSum_one, HLL.out]; omega) (E := 0) (dk' := { room := 5000, fs := [⟨[102], L, 0⟩], ops := 1 })
    (by rw [HF.out, List.flatten_cons, List.flatten_nil, List.append_nil]; exact append_first 5000 [102] L 0 rfl (by rw [HLL.out]; omega))).mono ?_
  rintro e w4 ⟨rfl, hd4, _⟩
  have HD4 := Lib.hid hd4
  clear hd4 HVP HD3 hn2
  obtain ⟨n4, hn4⟩ : ∃ n, w4.heap.size = n := ⟨_, rfl⟩
  go_wp2_with fail
  have hv4 := view_cells (h1 := fun _ => rfl) (enc := fun x => Value.string (ofL x)) (G := fun k => w4.heap.size ≤ k) [([102] : Tx)] 1 (blk_new w4 (.cells #[.string ⟨#[102]⟩] 9)) rfl rfl (Nat.le_refl _)
  rw [hn4] at hv4
  refine (sync_one HD4.out (below_new w4 (.cells #[.string ⟨#[102]⟩] 9)) (fun k h => h.elim) (by show 1 ≤ 1000000; decide) [[102]] (.slice (some ⟨n4, 0, none⟩) 1 1) hv4 (fun _ h => hn4 ▸ h) (by decide) (by decide) (E := 0) (dk' := { room := 5000, fs := [⟨[102], L, L.length⟩], ops := 2 }) (sync_only 5000 [102] L 0 1)).mono ?_
  rintro e w5 ⟨rfl, hd5, _⟩
  have HD5 := Lib.hid hd5
  have HP5 := Lib.hid (HP.out.below (HD0.out.symm ▸ hd5.bel))
  clear hd5 hv4 HD4 hn4
  go_wp2_with fail
  -- the copy
  obtain ⟨g5, t5, m5, hdd⟩ := HD5.out.dat
  refine (copy_any hdd (by show 1 ≤ 1000; decide) (fun f hf => by rw [List.mem_singleton] at hf; rw [hf]; show L.length ≤ _; rw [HLL.out]; omega)).mono ?_
  rintro e w6 ⟨rfl, ha6, hb6⟩
  obtain ⟨da, hda⟩ : ∃ da, w5.heap.size = da := ⟨_, rfl⟩
  have hd0a : d0 < da := hda ▸ HD5.out.lt
  rw [hda] at ha6 hb6 ⊢
  have HA6 := Lib.hid ha6
  have HD6 : Hid (DAt w6 (fun k => d0 < k ∧ k < da) d0 _) := Lib.hid (((HD5.out.dat.mono (S' := fun k => d0 < k ∧ k < da) (fun k _ h => ⟨h.1, hda ▸ h.2.1⟩) (fun h => by omega))).below (hda.symm ▸ hb6))
  have HP6 := Lib.hid (HP5.out.below (hda.symm ▸ hb6))
  have HB6 : Hid (Below d0 w w6) := Lib.hid (HD5.out.bel.trans (hb6.mono (by omega)))
  clear ha6 hb6 hdd HD5 HP5 hda
  go_wp2_with fail
  -- the crash
  obtain ⟨g6, t6, m6, hdd⟩ := HD6.out
  refine (crash_any hdd (by show 1 ≤ 1000; decide) (fun f hf => by rw [List.mem_singleton] at hf; rw [hf]; show L.length ≤ _; rw [HLL.out]; omega) ps _ _ HP6.out (by omega)).mono ?_
  rw [crash_whole]
  rintro e w7 ⟨rfl, hc7, hb7⟩
  obtain ⟨db, hdb⟩ : ∃ db, w6.heap.size = db := ⟨_, rfl⟩
  have hab : da < db := hdb ▸ HA6.out.lt
  rw [hdb] at hc7 hb7 ⊢
  have HD7 := Lib.hid (HD6.out.below (hdb.symm ▸ hb7))
  have HA7 : Hid (DAt w7 (fun k => da < k ∧ k < db) da _) := Lib.hid ((HA6.out.mono (S' := fun k => da < k ∧ k < db) (fun k hk h => ⟨h, hdb ▸ hk⟩) (fun h => by omega)).below (hdb.symm ▸ hb7))
  have HB7 : Hid (Below d0 w w7) := Lib.hid (HB6.out.trans (hb7.mono (by omega)))
  obtain ⟨n7, hn7⟩ : ∃ n, w7.heap.size = n := ⟨_, rfl⟩
  have hbn : db < n7 := hn7 ▸ hc7.lt
  have HC7 : Hid (DAt w7 (fun k => db < k ∧ k < n7) db _) := Lib.hid (hc7.mono (S' := fun k => db < k ∧ k < n7) (fun k hk h => ⟨h, hn7 ▸ hk⟩) (fun h => by omega))
  clear hc7 hb7 hdd HD6 HA6 HB6 HP6 hdb
  -- one byte behind the copy's
  have kc1 : (convert 28 28 (.slice (some ⟨n7, 0, none⟩) 1 1)).run Try.prog (w7.alloc (.cells #[.int .u8 97] 5)) = .ok (.slice (some ⟨n7, 0, none⟩) 1 1) (w7.alloc (.cells #[.int .u8 97] 5 (1, 2))) := by
    have := KC.out w7 #[.int .u8 97] 1 1; rw [hn7] at this; exact this
  have HO := Lib.hid (And.intro hd0a (And.intro hab hbn))
  clear hd0a hab hbn
  go_wp2_with fail
  clear kc1
  obtain ⟨hv8, hx8⟩ := lit_parts w7 [97] #[.int .u8 97] (1, 2) 1 n7 hn7 rfl rfl 28
  obtain ⟨w8, hw8⟩ : ∃ w2, ((w7.alloc (.cells #[.int .u8 97] 5 (1, 2))).alloc (.cells #[.slice (some ⟨n7, 0, none⟩) 1 1] 28)) = w2 := ⟨_, rfl⟩
  rw [hw8] at hv8 hx8 ⊢
  have HV8 := Lib.hid hv8
  have HD8 := Lib.hid (HD7.out.below (hn7.symm ▸ hx8))
  have HA8 := Lib.hid (HA7.out.below (hn7.symm ▸ hx8))
  have HC8 := Lib.hid (HC7.out.below (hn7.symm ▸ hx8))
  have HB8 : Hid (Below d0 w w8) := Lib.hid (HB7.out.trans (hx8.mono (by have := HO.out; omega)))
  obtain ⟨n8, hn8⟩ : ∃ n, w8.heap.size = n := ⟨_, rfl⟩
  have H78 : Hid (n7 ≤ n8) := Lib.hid (by have := hx8.size; omega)
  clear hw8 hv8 hx8 HD7 HA7 HC7 HB7 hn7
  refine (append_at HA8.out (by show 2 ≤ 1000000; decide) (by show usedN [⟨[102], L, L.length⟩] ≤ 1000000000; simp [usedN, HLL.out]; omega) (by show 1 ≤ 1000; decide) ⟨#[102]⟩ (by decide) [[97]] _ _ HV8.out (by have := HO.out; omega) (by simp) (by decide) (E := 0) (dk' := { room := 5000, fs := [⟨[102], L ++ [97], L.length⟩], ops := 3 })
    (by rw [HF.out]; exact append_only 5000 [102] L [97] L.length 2 rfl (by simp [HLL.out]; omega))).mono ?_
  rintro e w9 ⟨rfl, ha9, hk9⟩
  rw [hn8] at ha9
  have hs9 := hk9.size
  obtain ⟨n9, hn9⟩ : ∃ n, w9.heap.size = n := ⟨_, rfl⟩
  have H89 : Hid (n8 ≤ n9) := Lib.hid (by omega)
  have HA9 : Hid (DAt w9 (fun k => (da < k ∧ k < db) ∨ (n8 ≤ k ∧ k < n9)) da _) := Lib.hid (ha9.mono (S' := fun k => (da < k ∧ k < db) ∨ (n8 ≤ k ∧ k < n9)) (fun k hk h => h.imp id fun h => ⟨h, hn9 ▸ hk⟩) (fun h => by have := HO.out; have := H78.out; omega))
  have HD9 := Lib.hid (HD8.out.keep hk9 fun k _ h e => by have := HO.out; omega)
  have HC9 := Lib.hid (HC8.out.keep hk9 fun k _ h e => by have := HO.out; omega)
  have HB9 : Hid (Below d0 w w9) := Lib.hid (HB8.out.trans (hk9.below (by have := HO.out; have := H78.out; omega) fun i hi e => by have := HO.out; omega))
  clear ha9 hk9 hs9 HD8 HA8 HC8 HB8 HV8 hn8
  have kc1 : (convert 28 28 (.slice (some ⟨n9, 0, none⟩) 2 2)).run Try.prog (w9.alloc (.cells #[.int .u8 98, .int .u8 98] 5)) = .ok (.slice (some ⟨n9, 0, none⟩) 2 2) (w9.alloc (.cells #[.int .u8 98, .int .u8 98] 5 (2, 3))) := by
    have := KC.out w9 #[.int .u8 98, .int .u8 98] 2 2; rw [hn9] at this; exact this
  go_wp2_with fail
  clear kc1
  obtain ⟨hv1, hx1⟩ := lit_parts w9 [98, 98] #[.int .u8 98, .int .u8 98] (2, 3) 2 n9 hn9 rfl rfl 28
  obtain ⟨wa, hwa⟩ : ∃ w2, ((w9.alloc (.cells #[.int .u8 98, .int .u8 98] 5 (2, 3))).alloc (.cells #[.slice (some ⟨n9, 0, none⟩) 2 2] 28)) = w2 := ⟨_, rfl⟩
  rw [hwa] at hv1 hx1 ⊢
  have HVa := Lib.hid hv1
  have HDa := Lib.hid (HD9.out.below (hn9.symm ▸ hx1))
  have HAa := Lib.hid (HA9.out.below (hn9.symm ▸ hx1))
  have HCa := Lib.hid (HC9.out.below (hn9.symm ▸ hx1))
  have HBa : Hid (Below d0 w wa) := Lib.hid (HB9.out.trans (hx1.mono (by have := HO.out; have := H78.out; have := H89.out; omega)))
  obtain ⟨na, hna⟩ : ∃ n, wa.heap.size = n := ⟨_, rfl⟩
  have H9a : Hid (n9 ≤ na) := Lib.hid (by have := hx1.size; omega)
  clear hwa hv1 hx1 HD9 HA9 HC9 HB9 hn9
  refine (append_at HCa.out (by show 0 ≤ 1000000; decide) (by show usedN [⟨[102], L, L.length⟩] ≤ 1000000000; simp [usedN, HLL.out]; omega) (by show 1 ≤ 1000; decide) ⟨#[102]⟩ (by decide) [[98, 98]] _ _ HVa.out (by have := HO.out; have := H78.out; have := H89.out; omega) (by simp) (by decide) (E := 0) (dk' := { room := 5000, fs := [⟨[102], L ++ [98, 98], L.length⟩], ops := 1 })
    (by rw [HF.out]; exact append_only 5000 [102] L [98, 98] L.length 0 rfl (by simp [HLL.out]; omega))).mono ?_
  rintro e wb ⟨rfl, hcb, hkb⟩
  rw [hna] at hcb
  have HCb := Lib.hid hcb
  have HDb := Lib.hid (HDa.out.keep hkb fun k _ h e => by have := HO.out; omega)
  have HAb := Lib.hid (HAa.out.keep hkb fun k _ h e => by have := HO.out; have := H78.out; omega)
  have HBb : Hid (Below d0 w wb) := Lib.hid (HBa.out.trans (hkb.below (by have := HO.out; have := H78.out; have := H89.out; have := H9a.out; omega) fun i hi e => by have := HO.out; omega))
  have hsb := hkb.size
  have Hab : Hid (na ≤ wb.heap.size) := Lib.hid (by omega)
  clear hcb hkb hsb hna HCa HDa HAa HBa HVa
  go_wp2_with fail
  refine (remove_at HCb.out (by show 1 ≤ 1000000; decide) ⟨#[102]⟩ (by decide) (E := 0) (dk' := { room := 5000, fs := [], ops := 2 }) (by rw [HF.out]; exact remove_only 5000 [102] (L ++ [98, 98]) L.length 1)).mono ?_
  rintro e wc ⟨rfl, hcc, hkc⟩
  have HCc := Lib.hid hcc
  have HDc := Lib.hid (HDb.out.keep hkc fun k _ h e => by have := HO.out; have := H78.out; have := H89.out; have := H9a.out; omega)
  have HAc := Lib.hid (HAb.out.keep hkc fun k _ h e => by have := HO.out; have := H78.out; have := H89.out; have := H9a.out; omega)
  have HBc : Hid (Below d0 w wc) := Lib.hid (HBb.out.trans (hkc.below (by have := HO.out; have := H78.out; have := H89.out; have := H9a.out; have := Hab.out; omega) fun i hi e => by have := HO.out; have := H78.out; have := H89.out; have := H9a.out; omega))
  clear hcc hkc HCb HDb HAb HBb
  go_wp2_with fail
  refine (read_at HDc.out ⟨#[102]⟩ (by decide) (fun f hf => by rw [List.mem_singleton] at hf; rw [hf]; show L.length ≤ _; rw [HLL.out]; omega) (E := 0) (b := L) (by rw [HF.out]; simp [look])).mono ?_
  rintro e wd ⟨u, rfl, hud, hbd⟩
  have HU := Lib.hid hud.view
  have HCd := Lib.hid (HCc.out.below hbd); have HDd := Lib.hid (HDc.out.below hbd); have HAd := Lib.hid (HAc.out.below hbd)
  have HBd : Hid (Below d0 w wd) := Lib.hid (HBc.out.trans (hbd.mono (Nat.le_of_lt HDc.out.lt)))
  clear hud hbd HCc HDc HAc HBc
  go_wp2_with fail
  refine (read_at HAd.out ⟨#[102]⟩ (by decide) (fun f hf => by rw [List.mem_singleton] at hf; rw [hf]; show (L ++ [97]).length ≤ _; simp [HLL.out]; omega) (E := 0) (b := L ++ [97]) (by rw [HF.out]; simp [look])).mono ?_
  rintro e we ⟨y, rfl, hye, hbe⟩
  obtain ⟨YA, yc, rfl, hyc⟩ := hye.slice
  rw [show (L ++ [97] : List UInt8).length = n + 1 by simp [HLL.out]] at hyc ⊢
  have HUe := Lib.hid (HU.out.below hbe)
  have HCe := Lib.hid (HCd.out.below hbe); have HDe := Lib.hid (HDd.out.below hbe)
  have HBe : Hid (Below d0 w we) := Lib.hid (HBd.out.trans (hbe.mono (Nat.le_of_lt HDd.out.lt)))
  clear hye hbe HCd HDd HAd HBd HU
  go_wp2_with fail
  refine (read_at HCe.out ⟨#[102]⟩ (by decide) (by simp) (E := 4) (b := []) (by simp [look])).mono ?_
  rintro e wf ⟨z, rfl, _, hbf⟩
  have HUf := Lib.hid (HUe.out.below hbf)
  have HCf := Lib.hid (HCe.out.below hbf); have HDf := Lib.hid (HDe.out.below hbf)
  have HBf : Hid (Below d0 w wf) := Lib.hid (HBe.out.trans (hbf.mono (Nat.le_of_lt HDe.out.lt)))
  clear hbf HCe HDe HUe HBe
  go_wp2_with fail
  refine (bytes4_any (n : Int) n (by omega) 1 wf (by omega) (by decide) (by decide)).mono ?_
  rintro e wg ⟨rfl, hvg, hbg, hzg⟩
  rw [HL.out] at hvg
  have HVg := Lib.hid hvg
  have HUg := Lib.hid (HUf.out.below hbg)
  have HCg := Lib.hid (HCf.out.below hbg); have HDg := Lib.hid (HDf.out.below hbg)
  have HBg : Hid (Below d0 w wg) := Lib.hid (HBf.out.trans (hbg.mono (Nat.le_of_lt HDf.out.lt)))
  clear hvg hbg hzg HCf HDf HUf HBf
  go_wp2_with fail
  refine (bytes_any L L _ _ _ _ wg HUg.out HVg.out (by rw [HLL.out]; omega) (by rw [HLL.out]; omega)).mono ?_
  rw [beq_self_eq_true]
  rintro e wh ⟨rfl, hbh⟩
  have HCh := Lib.hid (HCg.out.below hbh); have HDh := Lib.hid (HDg.out.below hbh)
  have HBh : Hid (Below d0 w wh) := Lib.hid (HBg.out.trans (hbh.mono (Nat.le_of_lt HDg.out.lt)))
  clear hbh HCg HDg HUg HVg HBg
  go_wp2_with fail
  refine (ops_at HDh.out (n := 2) rfl).mono ?_
  rintro e w2 ⟨rfl, hw2⟩
  rw [hw2]
  clear hw2
  go_wp2_with fail
  refine (ops_at HCh.out (n := 2) rfl).mono ?_
  rintro e w2 ⟨rfl, hw2⟩
  rw [hw2]
  clear hw2
  go_wp2_with fail
  refine (awake4_any wh).mono ?_
  rintro e wi ⟨rfl, hbi⟩
  have HBi : Hid (Below d0 w wi) := Lib.hid (HBh.out.trans (hbi.mono (Nat.le_of_lt HDh.out.lt)))
  clear hbi
  go_wp2_with fail
  go_ret
  exact hR _ _ ⟨rfl, HBi.out⟩
theorem apart_row {w : World} (k : Int) (_ : -9223372036854775808 ≤ k) (_ : k ≤ 9223372036854775807) (l : List Int) (v : Value) (F : Nat → Prop) (hb : l.length * Try.prog.bytesOf 3 ≤ 140737488351232 ∧ ∀ x ∈ l, -9223372036854775808 ≤ x ∧ x ≤ 9223372036854775807) (hv : View Rp.int w F l v) :
    Calls Try.prog 5 #[.int .i64 k, v] w fun e w' => e = .returned (.bool true) ∧ Below w.heap.size w w' := apart_walk k l v F hv
end Go.Proofs.Ytlfcbhagbdonhaa.Asc
