/-
  The law parapetlaw4.DiskLasts answers true.
  Lengths within the rows' own reach.
-/
import Derived.Test.YtlfcbhagbdonhaaDkN
namespace Go.Proofs.Ytlfcbhagbdonhaa.Asc
set_option linter.unusedSimpArgs false
set_option linter.unusedVariables false
open Go Go.RowKit Go.Proofs.Ytlfcbhagbdonhaa.Pb

theorem lt_get {α : Type} {l : List α} {k : Nat} (h : k < l.length) : l[k]? = some l[k] := List.getElem?_eq_getElem h
theorem ret_bool {a b : Bool} (h : a = b) : Ending.returned (.bool a) = .returned (.bool b) := by rw [h]
set_option maxHeartbeats 1000000 in
theorem bytes_any (l m : List UInt8) (v u : Value) (F G : Nat → Prop) (w : World) (hv : View Rp.u8 w F l v) (hu : View Rp.u8 w G m u) (hl : l.length ≤ 140737488351232) (hm : m.length ≤ 140737488351232) :
    Calls Try.prog 15 #[v, u] w fun e w' => e = .returned (.bool (l == m)) ∧ Below w.heap.size w w' := by
  refine calls_gen fun R hR => ?_
  obtain ⟨A, c, rfl, hc, hcell⟩ := hv.open1
  obtain ⟨A', c', rfl, hc', hcell'⟩ := hu.open1
  clear hv hu
  have HC := Lib.hid hcell; clear hcell
  have HC' := Lib.hid hcell'; clear hcell'
  by_cases hne : l.length = m.length
  · have h1 : ((l.length : Int) != (m.length : Int)) = false := by rw [bne_eq_false_iff_eq]; omega
    have h1' : (l.length : Int) = (m.length : Int) := by omega
    have HN := Lib.hid hne; clear hne
    go_enter Try.func15, Try.ntmps15
    go_wp2_with fail
    clear h1
    go_loopw [5] (fun i wr => ∃ k n : Nat, k ≤ l.length ∧ i = .int .i64 k ∧ wr = w.drewN n ∧ Hid (∀ j, j < k → l[j]? = m[j]?)) (fun i _ => l.length - (intOf i).toNat)
    case atStart => exact ⟨0, 0, Nat.zero_le _, rfl, rfl, fun _ h => by omega⟩
    case round =>
      obtain ⟨k, n, hk, rfl, rfl, hall⟩ := hrel
      by_cases hlt : k < l.length
      · obtain ⟨b, off, rfl, hbl, hce⟩ := HC.out k hlt
        obtain ⟨b', off', rfl, hbl', hce'⟩ := HC'.out k (by omega)
        have hlt' : k < m.length := by omega
        obtain ⟨x, hx⟩ : ∃ x, l[k]? = some x := ⟨_, lt_get hlt⟩
        obtain ⟨y, hy⟩ : ∃ y, m[k]? = some y := ⟨_, lt_get hlt'⟩
        have hck := hce k x hx
        have hck' := hce' k y hy
        unfold u8v at hck hck'
        clear hce hce'
        have HX := Lib.hid hx; clear hx
        have HY := Lib.hid hy; clear hy
        by_cases hxy : x = y
        · subst hxy
          go_wp2_with fail
          go_quiet (fail)
          go_wp2_with fail
          go_roundw
          case rel =>
            refine ⟨k + 1, _, by omega, by go_num, rfl, fun j hj => ?_⟩
            by_cases hjk : j = k
            · subst hjk; rw [HX.out, HY.out]
            · exact hall.out j (by omega)
          case measure => simp [intOf]; omega
        · have hxn : ¬ (x.toNat : Int) = (y.toNat : Int) := by rw [Int.natCast_inj, UInt8.toNat_inj]; exact hxy
          go_wp2_with fail
          go_quiet (fail)
          go_wp2_with fail
          go_ret
          refine hR _ _ ⟨ret_bool ?_, Below.drewN (Below.drewN (Below.refl _ _) _) _⟩
          symm
          rw [beq_eq_false_iff_ne]
          rintro rfl
          have := HX.out; rw [HY.out] at this; cases this
          exact hxy rfl
      · go_wp2_with fail
        go_ret
        refine hR _ _ ⟨ret_bool ?_, Below.drewN (Below.refl _ _) _⟩
        symm
        rw [beq_iff_eq]
        have hn := HN.out
        apply List.ext_getElem?
        intro j
        by_cases hj : j < k
        · exact hall.out j hj
        · rw [List.getElem?_eq_none (by omega), List.getElem?_eq_none (by omega)]
  · have h1 : ¬ (l.length : Int) = (m.length : Int) := by omega
    have hlm : Hid ((l == m) = false) := Lib.hid (by rw [beq_eq_false_iff_ne]; rintro rfl; exact hne rfl)
    go_enter Try.func15, Try.ntmps15
    go_wp2_with fail
    go_ret
    exact hR _ _ ⟨by rw [hlm.out]; rfl, Below.refl _ _⟩

/-! ### one file alone -/
theorem append_first (room : Int) (n : Tx) (X : List UInt8) (ops : Nat) (hn : badName n = false) (hr : (X.length : Int) ≤ room) :
    ({ room := room, ops := ops } : Dk).append n X = (0, { room := room, fs := [⟨n, X, 0⟩], ops := ops + 1 }) := by
  unfold Dk.append Dk.off
  rw [if_neg (by simp), hn]
  have : (decide ((usedN ([] : List Fl) : Int) + (X.length : Int) > room)) = false := decide_eq_false (by simp [usedN]; omega)
  simp [look, Dk.tick, this, putF]
theorem sync_only (room : Int) (n : Tx) (X : List UInt8) (k ops : Nat) :
    ({ room := room, fs := [⟨n, X, k⟩], ops := ops } : Dk).sync [n] = (0, { room := room, fs := [⟨n, X, X.length⟩], ops := ops + 1 }) := by
  unfold Dk.sync Dk.off
  simp [look, Dk.tick, syncF, setF]
theorem append_only (room : Int) (n : Tx) (X Y : List UInt8) (k ops : Nat) (hn : badName n = false) (hr : ((X.length + Y.length : Nat) : Int) ≤ room) :
    ({ room := room, fs := [⟨n, X, k⟩], ops := ops } : Dk).append n Y = (0, { room := room, fs := [⟨n, X ++ Y, k⟩], ops := ops + 1 }) := by
  unfold Dk.append Dk.off
  rw [if_neg (by simp), hn]
  have : (decide (((usedN [⟨n, X, k⟩] : Nat) : Int) + (Y.length : Int) > room)) = false := decide_eq_false (by simp [usedN]; omega)
  simp [look, Dk.tick, this, setF]
theorem crash_only (room : Int) (n : Tx) (X : List UInt8) (k ops : Nat) (ps : List Int) :
    ({ room := room, fs := [⟨n, X, k⟩], ops := ops } : Dk).crash ps = { room := room, fs := [crashed ⟨n, X, k⟩ (crash1 ⟨n, X, k⟩ ps).1] } := by
  unfold Dk.crash
  rw [crashF_cons]; rfl
theorem lenSum_one (X : List UInt8) : lenSum [X] ([X] : List (List UInt8)).length = X.length := by simp [lenSum]

set_option maxHeartbeats 8000000 in
set_option maxRecDepth 20000 in
theorem lasts_walk {w : World} (s m : Int) (ps : List Int) (pv : Value) (F : Nat → Prop) (hp : View Rp.int w F ps pv) :
    Calls Try.prog 3 #[.int .i64 s, .int .i64 m, pv] w fun e w' => e = .returned (.bool true) ∧ Below w.heap.size w w' := by
  refine calls_gen fun R hR => ?_
  obtain ⟨PA, pc, rfl, hpc, _⟩ := hp.open1
  have HP := Lib.hid hp
  clear hp
  by_cases h1 : s < 0
  · go_enter Try.func3, Try.ntmps3
    go_wp2_with fail
    refine (awake4_any w).mono ?_
    rintro e w1 ⟨rfl, hb1⟩
    go_wp2_with fail
    go_ret
    exact hR _ _ ⟨rfl, hb1⟩
  by_cases h2 : s > 500
  · go_enter Try.func3, Try.ntmps3
    go_wp2_with fail
    refine (awake4_any w).mono ?_
    rintro e w1 ⟨rfl, hb1⟩
    go_wp2_with fail
    go_ret
    exact hR _ _ ⟨rfl, hb1⟩
  by_cases h3 : m < 0
  · go_enter Try.func3, Try.ntmps3
    go_wp2_with fail
    refine (awake4_any w).mono ?_
    rintro e w1 ⟨rfl, hb1⟩
    go_wp2_with fail
    go_ret
    exact hR _ _ ⟨rfl, hb1⟩
  by_cases h4 : m > 500
  · go_enter Try.func3, Try.ntmps3
    go_wp2_with fail
    refine (awake4_any w).mono ?_
    rintro e w1 ⟨rfl, hb1⟩
    go_wp2_with fail
    go_ret
    exact hR _ _ ⟨rfl, hb1⟩
  by_cases h5 : (ps.length : Int) > 50
  · go_enter Try.func3, Try.ntmps3
    go_wp2_with fail
    refine (awake4_any w).mono ?_
    rintro e w1 ⟨rfl, hb1⟩
    go_wp2_with fail
    go_ret
    exact hR _ _ ⟨rfl, hb1⟩
  obtain ⟨s, rfl⟩ := Int.eq_ofNat_of_zero_le (show 0 ≤ s by omega)
  obtain ⟨m, rfl⟩ := Int.eq_ofNat_of_zero_le (show 0 ≤ m by omega)
  have hs5 : s ≤ 500 := by omega
  have hm5 : m ≤ 500 := by omega
  obtain ⟨d0, hd0⟩ : ∃ d0, w.heap.size = d0 := ⟨_, rfl⟩
  rw [hd0] at hR
  go_enter Try.func3, Try.ntmps3
  go_wp2_with fail
  clear h1 h2 h3 h4
  refine (new_any 5000 w).mono ?_
  rintro e w1 ⟨_, h1⟩
  obtain ⟨rfl, hd1, hb1⟩ := h1 (by decide) (by decide)
  rw [hd0] at hd1 hb1 ⊢
  have HD1 : Hid (One (fun _ => False) w w1 d0 { room := 5000 }) := Lib.hid ⟨(DAt.now ⟨_, _, _, hd1⟩ fun _ h => h).mono (fun k _ h => ⟨h.1, h.2, fun h => h⟩) (fun h => by omega), hb1⟩
  have HD0 := Lib.hid hd0
  clear h1 hd1 hb1 hd0
  go_wp2_with fail
  obtain ⟨n, hn⟩ : ∃ n, s + m = n := ⟨_, rfl⟩
  have hsn : s ≤ n := by omega
  have hn9 : n ≤ 1000 := by omega
  refine (bytes4_any ((s : Int) + (m : Int)) n (by omega) 7 w1 (by omega) (by decide) (by decide)).mono ?_
  rintro e w2 ⟨rfl, hv2, hb2, hz2⟩
  have hlt1 := HD1.out.lt
  obtain ⟨n1, hn1⟩ : ∃ n, w1.heap.size = n := ⟨_, rfl⟩
  have HD2 := Lib.hid (HD1.out.below (P' := fun k => k = n1) hb2 (fun k h => .inr (by omega)))
  rw [hn1] at hv2 hz2 hlt1 ⊢
  obtain ⟨L, hL⟩ : ∃ L, lawB n 7 = L := ⟨_, rfl⟩
  have hLl : L.length = n := by rw [← hL, lawB_len]
  rw [hL] at hv2
  have HV2 := Lib.hid hv2; have HN1 := Lib.hid hlt1; have HLL := Lib.hid hLl; have HNN := Lib.hid hn
  clear hv2 hb2 hn1 hL hLl HD1
  have hi1 : (s : Int) ≤ (n : Int) := by omega
  obtain ⟨n2, hn2⟩ : ∃ n, w2.heap.size = n := ⟨_, rfl⟩
  rw [hn2] at hz2
  have HZ2 := Lib.hid hz2
  clear hn hlt1 hz2
  go_wp2_with fail
  have hb3 := below_new w2 (.cells #[.slice (some ⟨n1, 0, none⟩) s n] 28)
  have hg3 := blk_new w2 (.cells #[.slice (some ⟨n1, 0, none⟩) s n] 28)
  obtain ⟨w3, hw3⟩ : ∃ w3, w2.alloc (.cells #[.slice (some ⟨n1, 0, none⟩) s n] 28) = w3 := ⟨_, rfl⟩
  rw [hw3] at hb3 hg3 ⊢
  have HV3 := Lib.hid (HV2.out.below hb3)
  have hvx : View Rp.u8 w3 (fun k => k = n1 ∨ k = n2) (L.take s) (.slice (some ⟨n1, 0, none⟩) s n) := (HV3.out.take s (by rw [HLL.out]; omega) (by simp)).mono fun k h => .inl h
  rw [hn2] at hg3
  have HVP := Lib.hid (view_rows1 hg3 hvx (.inr rfl))
  have HD3 := Lib.hid (HD2.out.below (P' := fun k => k = n1) hb3 (fun k h => .inl h))
  have hz3 := hb3.size
  have hf : toL ⟨#[102]⟩ = [102] := rfl
  have HF := Lib.hid hf
  have htl : (L.take s).length = s := by rw [List.length_take, HLL.out]; omega
  have HTL := Lib.hid htl
  clear hw3 hb3 hg3 hvx hf htl HV2 HD2
  refine (append_one HD3.out (fun k h => by have := HZ2.out; omega) (by decide) (by decide) (by decide) ⟨#[102]⟩ (by decide) [L.take s] _ _ HVP.out (fun h => by have := HN1.out; have := HZ2.out; omega) (by simp) (by rw [lenSum_one, HTL.out]; omega) (E := 0) (dk' := { room := 5000, fs := [⟨[102], L.take s, 0⟩], ops := 1 })
    (by rw [HF.out, List.flatten_cons, List.flatten_nil, List.append_nil]; exact append_first 5000 [102] (L.take s) 0 rfl (by rw [HTL.out]; omega))).mono ?_
  rintro e w4 ⟨rfl, hd4, hk4⟩
  have HD4 := Lib.hid hd4
  have HV4 := Lib.hid (HV3.out.keep hk4 fun k hk e => by have := HN1.out; omega)
  have hz4 := hk4.size
  clear hd4 hk4 HV3 HVP HD3
  obtain ⟨n4, hn4⟩ : ∃ n, w4.heap.size = n := ⟨_, rfl⟩
  go_wp2_with fail
  have hv4 := view_cells (h1 := fun _ => rfl) (enc := fun x => Value.string (ofL x)) (G := fun k => w4.heap.size ≤ k) [([102] : Tx)] 1 (blk_new w4 (.cells #[.string ⟨#[102]⟩] 9)) rfl rfl (Nat.le_refl _)
  rw [hn4] at hv4
  have HV4b := Lib.hid (HV4.out.below (below_new w4 (.cells #[.string ⟨#[102]⟩] 9)))
  refine (sync_one HD4.out (below_new w4 (.cells #[.string ⟨#[102]⟩] 9)) (fun k h => by have := HZ2.out; omega) (by show 1 ≤ 1000000; decide) [[102]] (.slice (some ⟨n4, 0, none⟩) 1 1) hv4 (fun _ h => hn4 ▸ h) (by decide) (by decide) (E := 0) (dk' := { room := 5000, fs := [⟨[102], L.take s, (L.take s).length⟩], ops := 2 }) (sync_only 5000 [102] (L.take s) 0 1)).mono ?_
  rintro e w5 ⟨rfl, hd5, hk5⟩
  have HD5 := Lib.hid hd5
  have HV5 := Lib.hid (HV4b.out.keep hk5 fun k hk e => by have := HN1.out; omega)
  have hz5 := hk5.size
  simp only [World.size_alloc] at hz5
  clear hd5 hk5 hv4 HV4 HV4b HD4 hn4
  obtain ⟨n5, hn5⟩ : ∃ n, w5.heap.size = n := ⟨_, rfl⟩
  have HVD := Lib.hid (HV5.out.drop s (by rw [HLL.out]; omega))
  have hl6 : (L.take s ++ L.drop s).length = n := by rw [List.take_append_drop, HLL.out]
  have HL6 := Lib.hid hl6
  clear hl6
  have hds : (L.drop s).length = n - s := by rw [List.length_drop, HLL.out]
  have HDS := Lib.hid hds
  clear hds
  go_wp2_with fail
  case inr h =>
    skip
    have hvd : View Rp.u8 w5 (fun k => k = n1 ∨ k = n5) (L.drop s) (.slice (some ⟨n1, s, none⟩) (n - s) (n - s)) := by
      have := HVD.out
      rw [HLL.out] at this
      rw [if_neg h] at this
      exact (by first | exact this.mono fun k h => .inl h | (simpa [show Rp.u8.sz = 1 from rfl] using this.mono (F' := fun k => k = n1 ∨ k = n5) fun k h => .inl h))
    have hb6 := below_new w5 (.cells #[.slice (some ⟨n1, s, none⟩) (n - s) (n - s)] 28)
    have hg6 := blk_new w5 (.cells #[.slice (some ⟨n1, s, none⟩) (n - s) (n - s)] 28)
    obtain ⟨w6, hw6⟩ : ∃ w6, w5.alloc (.cells #[.slice (some ⟨n1, s, none⟩) (n - s) (n - s)] 28) = w6 := ⟨_, rfl⟩
    rw [hw6] at hb6 hg6 ⊢
    have HV6 := Lib.hid (HV5.out.below hb6)
    have HVD6 := Lib.hid (hvd.below hb6)
    rw [hn5] at hg6
    have HVP := Lib.hid (view_rows1 hg6 HVD6.out (.inr rfl))
    have HD6 := Lib.hid (HD5.out.below (P' := fun k => k = n1) hb6 (fun k h => .inl h))
    have hz6 := hb6.size
    clear hw6 hb6 hg6 hvd HV5 HD5 HVD HVD6
    refine (append_one HD6.out (fun k h => by have := HZ2.out; omega) (by show 2 ≤ 1000000; decide) (by show usedN [⟨[102], L.take s, (L.take s).length⟩] ≤ 1000000000; simp [usedN]; omega) (by show 1 ≤ 1000; decide) ⟨#[102]⟩ (by decide) [L.drop s] _ _ HVP.out (fun h => by have := HN1.out; have := HZ2.out; omega) (by simp) (by rw [lenSum_one, HDS.out]; omega) (E := 0) (dk' := { room := 5000, fs := [⟨[102], L.take s ++ L.drop s, (L.take s).length⟩], ops := 3 })
      (by rw [HF.out, List.flatten_cons, List.flatten_nil, List.append_nil]; exact append_only 5000 [102] (L.take s) (L.drop s) (L.take s).length 2 rfl (by rw [← List.length_append, HL6.out]; omega))).mono ?_
    rw [List.take_append_drop, HTL.out]
    rintro e w7 ⟨rfl, hd7, hk7⟩
    have HD7 := Lib.hid hd7
    have HV7 := Lib.hid (HV6.out.keep hk7 fun k hk e => by have := HN1.out; omega)
    have HP7 := Lib.hid (HP.out.below (HD0.out.symm ▸ hd7.bel))
    clear hd7 hk7 HV6 HVP HD6
    go_wp2_with fail
    obtain ⟨g7, t7, m7, hdd⟩ := HD7.out.dat
    refine (crash_any hdd (by show 1 ≤ 1000; decide) (fun f hf => by rw [List.mem_singleton] at hf; rw [hf]; show L.length ≤ _; rw [HLL.out]; omega) ps _ _ HP7.out (by omega)).mono ?_
    rintro e w8 ⟨rfl, ⟨g8, t8, m8, hd8⟩, hb8⟩
    rw [crash_only] at hd8
    have hkl := crash1_le ⟨[102], L, s⟩ ps
    obtain ⟨k, hk⟩ : ∃ k, (crash1 ⟨[102], L, s⟩ ps).1 = k := ⟨_, rfl⟩
    rw [hk] at hd8 hkl
    replace hkl : k ≤ n - s := by have h1 : k ≤ L.length - s := hkl; rw [HLL.out] at h1; exact h1
    obtain ⟨q, hq⟩ : ∃ q, s + k = q := ⟨_, rfl⟩
    have hsq : (s : Int) ≤ (q : Int) := by omega
    have hqn : (q : Int) ≤ (n : Int) := by omega
    have hql : (L.take q).length = q := by rw [List.length_take, HLL.out]; omega
    rw [show crashed ⟨[102], L, s⟩ k = ⟨[102], L.take q, q⟩ by unfold crashed; rw [hq]] at hd8
    have HDC := Lib.hid hd8
    have HB8 := Lib.hid (HD7.out.bel.trans (hb8.mono (by have := HD7.out.lt; omega)))
    have HV8 := Lib.hid (HV7.out.below hb8)
    have HQL := Lib.hid hql
    clear hd8 hb8 hk hdd hkl hq hql HV7 HD7 HP7
    go_wp2_with fail
    refine (read_any HDC.out ⟨#[102]⟩ (by decide) (fun f hf => by rw [List.mem_singleton] at hf; rw [hf]; show (L.take q).length ≤ _; rw [HQL.out]; omega)).mono ?_
    rintro e w9 ⟨u9, rfl, ho9, hb9⟩
    rw [show look ({ room := 5000, fs := [⟨[102], L.take q, q⟩] } : Dk).fs (toL ⟨#[102]⟩) = some ⟨[102], L.take q, q⟩ by rw [HF.out]; simp [look]] at ho9 ⊢
    obtain ⟨UA, uc, rfl, huc⟩ := ho9.slice
    rw [HQL.out] at huc ⊢
    have HU9 := Lib.hid ho9.view
    have HV9 := Lib.hid (HV8.out.below hb9)
    have HB9 := Lib.hid (HB8.out.trans (hb9.mono (by have := HB8.out.size; have := HD0.out; omega)))
    have HVT : Hid (View Rp.u8 w9 (fun k => k = n1) (L.take q) (.slice (some ⟨n1, 0, none⟩) q n)) := Lib.hid (HV9.out.take q (by rw [HLL.out]; omega) (by simp))
    clear ho9 hb9 HV8 HDC HB8
    go_wp2_with fail
    refine (bytes_any (L.take q) (L.take q) _ _ _ _ w9 (by have := HU9.out; rw [HQL.out] at this; exact this) HVT.out (by rw [HQL.out]; omega) (by rw [HQL.out]; omega)).mono ?_
    rw [beq_self_eq_true]
    rintro e wa ⟨rfl, hba⟩
    have HBa := Lib.hid (HB9.out.trans (hba.mono (by have := HB9.out.size; have := HD0.out; omega)))
    clear hba
    go_wp2_with fail
    refine (awake4_any wa).mono ?_
    rintro e wb ⟨rfl, hbb⟩
    have HBb := Lib.hid (HBa.out.trans (hbb.mono (by have := HBa.out.size; have := HD0.out; omega)))
    clear hbb
    go_wp2_with fail
    go_ret
    exact hR _ _ ⟨rfl, HBb.out⟩
  case inl h =>
    obtain rfl : s = n := h.symm
    have hvd : View Rp.u8 w5 (fun k => k = n1 ∨ k = n5) (L.drop s) (.slice (some ⟨n1, 0, none⟩) 0 0) := by
      have := HVD.out
      rw [HLL.out] at this
      rw [if_pos h] at this
      exact (by first | exact this.mono fun k h => .inl h | (simpa [show Rp.u8.sz = 1 from rfl] using this.mono (F' := fun k => k = n1 ∨ k = n5) fun k h => .inl h))
    have hb6 := below_new w5 (.cells #[.slice (some ⟨n1, 0, none⟩) 0 0] 28)
    have hg6 := blk_new w5 (.cells #[.slice (some ⟨n1, 0, none⟩) 0 0] 28)
    obtain ⟨w6, hw6⟩ : ∃ w6, w5.alloc (.cells #[.slice (some ⟨n1, 0, none⟩) 0 0] 28) = w6 := ⟨_, rfl⟩
    rw [hw6] at hb6 hg6 ⊢
    have HV6 := Lib.hid (HV5.out.below hb6)
    have HVD6 := Lib.hid (hvd.below hb6)
    rw [hn5] at hg6
    have HVP := Lib.hid (view_rows1 hg6 HVD6.out (.inr rfl))
    have HD6 := Lib.hid (HD5.out.below (P' := fun k => k = n1) hb6 (fun k h => .inl h))
    have hz6 := hb6.size
    clear hw6 hb6 hg6 hvd HV5 HD5 HVD HVD6
    refine (append_one HD6.out (fun k h => by have := HZ2.out; omega) (by show 2 ≤ 1000000; decide) (by show usedN [⟨[102], L.take s, (L.take s).length⟩] ≤ 1000000000; simp [usedN]; omega) (by show 1 ≤ 1000; decide) ⟨#[102]⟩ (by decide) [L.drop s] _ _ HVP.out (fun h => by have := HN1.out; have := HZ2.out; omega) (by simp) (by rw [lenSum_one, HDS.out]; omega) (E := 0) (dk' := { room := 5000, fs := [⟨[102], L.take s ++ L.drop s, (L.take s).length⟩], ops := 3 })
      (by rw [HF.out, List.flatten_cons, List.flatten_nil, List.append_nil]; exact append_only 5000 [102] (L.take s) (L.drop s) (L.take s).length 2 rfl (by rw [← List.length_append, HL6.out]; omega))).mono ?_
    rw [List.take_append_drop, HTL.out]
    rintro e w7 ⟨rfl, hd7, hk7⟩
    have HD7 := Lib.hid hd7
    have HV7 := Lib.hid (HV6.out.keep hk7 fun k hk e => by have := HN1.out; omega)
    have HP7 := Lib.hid (HP.out.below (HD0.out.symm ▸ hd7.bel))
    clear hd7 hk7 HV6 HVP HD6
    go_wp2_with fail
    obtain ⟨g7, t7, m7, hdd⟩ := HD7.out.dat
    refine (crash_any hdd (by show 1 ≤ 1000; decide) (fun f hf => by rw [List.mem_singleton] at hf; rw [hf]; show L.length ≤ _; rw [HLL.out]; omega) ps _ _ HP7.out (by omega)).mono ?_
    rintro e w8 ⟨rfl, ⟨g8, t8, m8, hd8⟩, hb8⟩
    rw [crash_only] at hd8
    have hkl := crash1_le ⟨[102], L, s⟩ ps
    obtain ⟨k, hk⟩ : ∃ k, (crash1 ⟨[102], L, s⟩ ps).1 = k := ⟨_, rfl⟩
    rw [hk] at hd8 hkl
    replace hkl : k ≤ s - s := by have h1 : k ≤ L.length - s := hkl; rw [HLL.out] at h1; exact h1
    obtain ⟨q, hq⟩ : ∃ q, s + k = q := ⟨_, rfl⟩
    have hsq : (s : Int) ≤ (q : Int) := by omega
    have hqn : (q : Int) ≤ (s : Int) := by omega
    have hql : (L.take q).length = q := by rw [List.length_take, HLL.out]; omega
    rw [show crashed ⟨[102], L, s⟩ k = ⟨[102], L.take q, q⟩ by unfold crashed; rw [hq]] at hd8
    have HDC := Lib.hid hd8
    have HB8 := Lib.hid (HD7.out.bel.trans (hb8.mono (by have := HD7.out.lt; omega)))
    have HV8 := Lib.hid (HV7.out.below hb8)
    have HQL := Lib.hid hql
    clear hd8 hb8 hk hdd hkl hq hql HV7 HD7 HP7
    go_wp2_with fail
    refine (read_any HDC.out ⟨#[102]⟩ (by decide) (fun f hf => by rw [List.mem_singleton] at hf; rw [hf]; show (L.take q).length ≤ _; rw [HQL.out]; omega)).mono ?_
    rintro e w9 ⟨u9, rfl, ho9, hb9⟩
    rw [show look ({ room := 5000, fs := [⟨[102], L.take q, q⟩] } : Dk).fs (toL ⟨#[102]⟩) = some ⟨[102], L.take q, q⟩ by rw [HF.out]; simp [look]] at ho9 ⊢
    obtain ⟨UA, uc, rfl, huc⟩ := ho9.slice
    rw [HQL.out] at huc ⊢
    have HU9 := Lib.hid ho9.view
    have HV9 := Lib.hid (HV8.out.below hb9)
    have HB9 := Lib.hid (HB8.out.trans (hb9.mono (by have := HB8.out.size; have := HD0.out; omega)))
    have HVT : Hid (View Rp.u8 w9 (fun k => k = n1) (L.take q) (.slice (some ⟨n1, 0, none⟩) q s)) := Lib.hid (HV9.out.take q (by rw [HLL.out]; omega) (by simp))
    clear ho9 hb9 HV8 HDC HB8
    go_wp2_with fail
    refine (bytes_any (L.take q) (L.take q) _ _ _ _ w9 (by have := HU9.out; rw [HQL.out] at this; exact this) HVT.out (by rw [HQL.out]; omega) (by rw [HQL.out]; omega)).mono ?_
    rw [beq_self_eq_true]
    rintro e wa ⟨rfl, hba⟩
    have HBa := Lib.hid (HB9.out.trans (hba.mono (by have := HB9.out.size; have := HD0.out; omega)))
    clear hba
    go_wp2_with fail
    refine (awake4_any wa).mono ?_
    rintro e wb ⟨rfl, hbb⟩
    have HBb := Lib.hid (HBa.out.trans (hbb.mono (by have := HBa.out.size; have := HD0.out; omega)))
    clear hbb
    go_wp2_with fail
    go_ret
    exact hR _ _ ⟨rfl, HBb.out⟩
theorem lasts_row {w : World} (s : Int) (_ : -9223372036854775808 ≤ s) (_ : s ≤ 9223372036854775807) (k : Int) (_ : -9223372036854775808 ≤ k) (_ : k ≤ 9223372036854775807) (l : List Int) (v : Value) (F : Nat → Prop) (hb : l.length * Try.prog.bytesOf 3 ≤ 140737488351232 ∧ ∀ x ∈ l, -9223372036854775808 ≤ x ∧ x ≤ 9223372036854775807) (hv : View Rp.int w F l v) :
    Calls Try.prog 3 #[.int .i64 s, .int .i64 k, v] w fun e w' => e = .returned (.bool true) ∧ Below w.heap.size w w' := lasts_walk s k l v F hv
end Go.Proofs.Ytlfcbhagbdonhaa.Asc
