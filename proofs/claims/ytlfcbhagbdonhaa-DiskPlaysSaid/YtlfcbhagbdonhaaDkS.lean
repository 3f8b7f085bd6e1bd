/-
  The law parapetlaw4.DiskFull answers true.
  Lengths within the rows' own reach.
-/
import Derived.Test.YtlfcbhagbdonhaaDkR
namespace Go.Proofs.Ytlfcbhagbdonhaa.Asc
set_option linter.unusedSimpArgs false
set_option linter.unusedVariables false
open Go Go.RowKit Go.Proofs.Ytlfcbhagbdonhaa.Pb

theorem round_any (k n : Int) (hn : 0 < n) (hb : n ≤ 1000000) (w : World) :
    Calls Try.prog 16 #[.int .i64 k, .int .i64 n] w fun e w' => e = .returned (.int .i64 (k % n)) ∧ w = w' := by
  refine calls_gen fun R hR => ?_
  obtain ⟨h2, h3, h4, h5⟩ := modulo_eq k n hn
  have H4 := Lib.hid h4; have H5 := Lib.hid h5
  clear h4 h5
  by_cases ht : k.tmod n < 0
  · have h6 := Lib.hid (H4.out ht)
    go_enter Try.func16, Try.ntmps16
    go_wp2_with fail
    go_ret
    refine hR _ _ ⟨?_, rfl⟩
    rw [← h6.out]; rfl
  · have h6 := Lib.hid (H5.out ht)
    go_enter Try.func16, Try.ntmps16
    go_wp2_with fail
    go_ret
    refine hR _ _ ⟨?_, rfl⟩
    rw [← h6.out]; rfl


theorem toL_cat (a b : ByteArray) : toL (a ++ b) = toL a ++ toL b := by
  show (a ++ b).data.toList = a.data.toList ++ b.data.toList
  rw [ByteArray.data_append, Array.toList_append]
/-- the law's names -/
def nmF (k : Nat) : Tx := [102, UInt8.ofNat (97 + k % 26), UInt8.ofNat (97 + k / 26)]
theorem nmF_inj {j k : Nat} (hj : j < 90) (hk : k < 90) (h : nmF j = nmF k) : j = k := by
  unfold nmF at h
  simp only [List.cons.injEq, and_true, true_and] at h
  have h1 := congrArg UInt8.toNat h.1
  have h2 := congrArg UInt8.toNat h.2
  have h8 : UInt8.size = 256 := rfl
  rw [UInt8.toNat_ofNat_of_lt' (by omega), UInt8.toNat_ofNat_of_lt' (by omega)] at h1 h2
  omega
theorem append_new (dk : Dk) (n : Tx) (b : List UInt8) (hlim : dk.lim = none) (hn : badName n = false) (hl : look dk.fs n = none) :
    dk.append n b = if dk.fs.length ≥ 64 ∨ (usedN dk.fs : Int) + b.length > dk.room then (3, dk.tick) else (0, { dk.tick with fs := putF dk.fs ⟨n, b, 0⟩ }) := by
  have ho : dk.off = false := by unfold Dk.off; rw [hlim]; rfl
  unfold Dk.append
  rw [if_neg (by rw [ho]; decide), if_neg (by rw [hn]; decide), hl]
  by_cases h1 : dk.fs.length ≥ 64
  · rw [if_pos (by simp [h1]), if_pos (.inl h1)]
  · by_cases h2 : (usedN dk.fs : Int) + b.length > dk.room
    · rw [if_pos (by simp [h2]), if_pos (.inr h2)]
    · rw [if_neg (by simp [h1, h2]), if_neg (by simp [h1, h2])]

set_option maxHeartbeats 8000000 in
set_option maxRecDepth 20000 in
theorem full_walk {w : World} (room : Int) (l : List Int) (pv : Value) (F : Nat → Prop) (hp : View Rp.int w F l pv) :
    Calls Try.prog 4 #[.int .i64 room, pv] w fun e w' => e = .returned (.bool true) ∧ Below w.heap.size w w' := by
  refine calls_gen fun R hR => ?_
  obtain ⟨PA, pc, rfl, hpc, _⟩ := hp.open1
  have HP := Lib.hid hp
  clear hp
  by_cases h1 : room < 0
  · go_enter Try.func4, Try.ntmps4
    go_wp2_with fail
    refine (awake4_any w).mono ?_
    rintro e w1 ⟨rfl, hb1⟩
    go_wp2_with fail
    go_ret
    exact hR _ _ ⟨rfl, hb1⟩
  by_cases h2 : room > 3000
  · go_enter Try.func4, Try.ntmps4
    go_wp2_with fail
    refine (awake4_any w).mono ?_
    rintro e w1 ⟨rfl, hb1⟩
    go_wp2_with fail
    go_ret
    exact hR _ _ ⟨rfl, hb1⟩
  by_cases h5 : (l.length : Int) > 90
  · go_enter Try.func4, Try.ntmps4
    go_wp2_with fail
    refine (awake4_any w).mono ?_
    rintro e w1 ⟨rfl, hb1⟩
    go_wp2_with fail
    go_ret
    exact hR _ _ ⟨rfl, hb1⟩
  have hl9 : l.length ≤ 90 := by omega
  have hr0 : 0 ≤ room := by omega
  have hr3 : room ≤ 3000 := by omega
  obtain ⟨d0, hd0⟩ : ∃ d0, w.heap.size = d0 := ⟨_, rfl⟩
  rw [hd0] at hR
  go_enter Try.func4, Try.ntmps4
  go_wp2_with fail
  clear h1 h2
  refine (new_any room w).mono ?_
  rintro e w1 ⟨_, h1⟩
  obtain ⟨rfl, hd1, hb1⟩ := h1 hr0 (by omega)
  rw [hd0] at hd1 hb1 ⊢
  have HD1 : Hid (One (fun _ => False) w w1 d0 { room := room }) := Lib.hid ⟨(DAt.now ⟨_, _, _, hd1⟩ fun _ h => h).mono (fun k _ h => ⟨h.1, h.2, fun h => h⟩) (fun h => by omega), hb1⟩
  have HD0 := Lib.hid hd0
  clear h1 hd1 hb1 hd0
  go_wp2_with fail
  go_loopw [7, 8, 9] (fun u f i wr => ∃ (k : Nat) (fs : List Fl), k ≤ l.length ∧ i = .int .i64 k ∧ u = .int .i64 (usedN fs : Nat) ∧ f = .int .i64 (fs.length : Nat) ∧ One (fun _ => False) w wr d0 { room := room, fs := fs, ops := k } ∧ (usedN fs : Int) ≤ room ∧ fs.length ≤ 64 ∧ ∀ x ∈ fs, ∃ j, j < k ∧ x.name = nmF j) (fun _ _ i _ => l.length - (intOf i).toNat)
  case atStart => exact ⟨0, [], Nat.zero_le _, rfl, rfl, rfl, HD1.out, hr0, by simp, by simp⟩
  case round =>
    obtain ⟨k, fs, hk, rfl, rfl, rfl, hone, hus, hfl, hnm⟩ := hrel
    have HO := Lib.hid hone; have HNM := Lib.hid hnm
    have hltd := hone.lt
    clear hone hnm
    obtain ⟨U, hU⟩ : ∃ U, usedN fs = U := ⟨_, rfl⟩
    obtain ⟨Fn, hFn⟩ : ∃ n, fs.length = n := ⟨_, rfl⟩
    have HU := Lib.hid hU; have HFN := Lib.hid hFn
    rw [hU] at hus ⊢
    rw [hFn] at hfl ⊢
    clear hU hFn
    by_cases hlt : k < l.length
    · obtain ⟨x, hx⟩ : ∃ x, l[k]? = some x := ⟨_, lt_get hlt⟩
      obtain ⟨A', c', e, _, hget⟩ := (HP.out.below (HD0.out.symm ▸ HO.out.bel)).open1
      cases e
      obtain ⟨gb, off, rfl, hgb, hgx⟩ := hget k hlt
      have d0x : wr.cell? ⟨gb, off + k, none⟩ = some (.int .i64 x) := hgx k x hx
      clear hgx hget hx
      go_wp2_with fail
      refine (round_any x 100 (by decide) (by decide) wr).mono ?_
      rintro e w2 ⟨rfl, hw2⟩
      rw [← hw2]
      clear hw2
      have hm0 := Int.emod_nonneg x (show (100 : Int) ≠ 0 by decide)
      have hm1 := Int.emod_lt_of_pos x (show (0 : Int) < 100 by decide)
      obtain ⟨m, hm⟩ := Int.eq_ofNat_of_zero_le hm0
      rw [hm] at hm1 ⊢
      have hm9 : m < 100 := by omega
      clear hm hm0 hm1 d0x hgb
      have hk9 : k < 90 := by omega
      obtain ⟨q, hq⟩ : ∃ q, k % 26 = q := ⟨_, rfl⟩
      obtain ⟨r, hr⟩ : ∃ r, k / 26 = r := ⟨_, rfl⟩
      have hq1 : (k : Int).tmod 26 = (q : Int) := by rw [Int.tmod_eq_emod_of_nonneg (by omega)]; omega
      have hr1 : (k : Int).tdiv 26 = (r : Int) := by rw [Int.tdiv_eq_ediv_of_nonneg (by omega)]; omega
      have hq26 : q < 26 := by omega
      have hr26 : r < 26 := by omega
      have hNK : Hid (nmF k = [102, UInt8.ofNat (97 + q), UInt8.ofNat (97 + r)]) := Lib.hid (by unfold nmF; rw [hq, hr])
      obtain ⟨xa, hxa⟩ : ∃ x, UInt8.ofNat (97 + q) = x := ⟨_, rfl⟩
      obtain ⟨xb, hxb⟩ : ∃ x, UInt8.ofNat (97 + r) = x := ⟨_, rfl⟩
      have HXA : Hid ((xa.toNat : Int) = 97 + (q : Int)) := Lib.hid (by rw [← hxa, UInt8.toNat_ofNat_of_lt' (by have h8 : UInt8.size = 256 := rfl; omega)]; omega)
      have HXB : Hid ((xb.toNat : Int) = 97 + (r : Int)) := Lib.hid (by rw [← hxb, UInt8.toNat_ofNat_of_lt' (by have h8 : UInt8.size = 256 := rfl; omega)]; omega)
      rw [hxa, hxb] at hNK
      obtain ⟨S2, hS2⟩ : ∃ S, ofL [xa, xb] = S := ⟨_, rfl⟩
      have hsz2 : S2.size = 2 := by rw [← hS2, ofL_size]; rfl
      have HSZ2 := Lib.hid hsz2; have HS2 := Lib.hid hS2
      obtain ⟨NM, hNM⟩ : ∃ NM, (⟨#[102]⟩ : ByteArray) ++ S2 = NM := ⟨_, rfl⟩
      have HTN : Hid (toL NM = nmF k) := Lib.hid (by rw [hNK.out, ← hNM, ← hS2, toL_cat, toL_ofL]; rfl)
      have HNMs : Hid (NM.size ≤ 1000000) := Lib.hid (by rw [← toL_len, HTN.out]; exact (by decide : 3 ≤ 1000000))
      have HNQ := Lib.hid hNM
      have HQ1 := Lib.hid hq1; have HR1 := Lib.hid hr1
      clear hq hr hNM hq1 hr1 hxa hxb hS2 hsz2
      obtain ⟨n3, hn3⟩ : ∃ n, wr.heap.size = n := ⟨_, rfl⟩
      have HN3 := Lib.hid hn3
      have hd3 : d0 < n3 := by omega
      clear hn3
      go_upto_region 12 with fail
      refine wp_region_any (by kernel_rfl) ?_
      refine region_ext [(fun vv _ => vv = .pointer (some ⟨d0, 0, none⟩)), (fun vv _ => vv = .int .i64 k), (fun vv _ => vv = .int .i64 (q : Int)), (fun vv _ => vv = .int .i64 (97 + (q : Int))), (fun vv _ => vv = .int .u8 (97 + (q : Int))), (fun vv _ => vv = .int .i64 k), (fun vv _ => vv = .int .i64 (r : Int)), (fun vv _ => vv = .int .i64 (97 + (r : Int))), (fun vv _ => vv = .int .u8 (97 + (r : Int))), (fun v w => ∃ b, v = .slice (some ⟨b, 0, none⟩) 2 2 ∧ View Rp.u8 w (fun _ => True) [xa, xb] v), (fun vv _ => vv = .string S2), (fun vv _ => vv = .string NM), (fun vv _ => vv = .int .i64 m), (fun vv _ => vv = .int .i64 k), (fun v w => ∃ b, v = .slice (some ⟨b, 0, none⟩) m m ∧ View Rp.u8 w (fun j => n3 ≤ j) (lawB m k) v), (fun v w => ∃ b, v = .slice (some ⟨b, 0, none⟩) 1 1 ∧ View Rp.u8.view w (fun j => n3 ≤ j) [lawB m k] v)]
        [[], [], [(1, 47)], [(2, 48)], [(3, 49)], [], [(5, 51)], [(6, 52)], [(7, 53)], [(4, 50), (8, 54)], [(9, 55)], [(10, 56)], [], [], [(12, 58), (13, 59)], [(14, 60)], [], []]
        [none, none, none, none, none, none, none, none, none, none, none, none, none, none, none, none, none, none]
        [some 46, some 47, some 48, some 49, some 50, some 51, some 52, some 53, some 54, some 55, some 56, some 57, some 58, some 59, some 60, some 61] 16 (by kernel_rfl) (by kernel_rfl) (by kernel_rfl) rfl (by kernel_rfl) ?_ ?_ ?_
      · exact ⟨fun _ _ _ _ h => h, fun _ _ _ _ h => h, fun _ _ _ _ h => h, fun _ _ _ _ h => h, fun _ _ _ _ h => h, fun _ _ _ _ h => h, fun _ _ _ _ h => h, fun _ _ _ _ h => h, fun _ _ _ _ h => h, (fun _ _ _ k ⟨b, h1, h2⟩ => ⟨b, h1, h2.below k⟩), fun _ _ _ _ h => h, fun _ _ _ _ h => h, fun _ _ _ _ h => h, fun _ _ _ _ h => h, (fun _ _ _ k ⟨b, h1, h2⟩ => ⟨b, h1, h2.below k⟩), (fun _ _ _ k ⟨b, h1, h2⟩ => ⟨b, h1, h2.below k⟩), trivial⟩
      · refine ⟨fun ρ wx _ hx _ => gives_move (hx (.tmp 5) (by simp)), fun ρ wx _ hx _ => gives_move (hx (.tmp 9) (by simp)), ?_, ?_, ?_, fun ρ wx _ hx _ => gives_move (hx (.tmp 9) (by simp)), ?_, ?_, ?_, ?_, ?_, ?_, fun ρ wx _ hx _ => gives_move (hx (.tmp 10) (by simp)), fun ρ wx _ hx _ => gives_move (hx (.tmp 9) (by simp)), ?_, ?_, trivial⟩
        · intro ρ wx hE hx hd
          replace hE := Ext.undrew hE
          have e47 : ρ (.tmp 47) = .int .i64 k := hd.1
          have hk : ∀ v, ρ (.const v) = v := fun v => (hx (.const v) (by simp)).trans rfl
          exact gives_val (G := fun vv _ => vv = .int .i64 (q : Int)) (v := .int .i64 (q : Int)) (by simp [execOp, e47, hk, go_sem, HQ1.out]) rfl
        · intro ρ wx hE hx hd
          replace hE := Ext.undrew hE
          have e48 : ρ (.tmp 48) = .int .i64 (q : Int) := hd.1
          have hk : ∀ v, ρ (.const v) = v := fun v => (hx (.const v) (by simp)).trans rfl
          exact gives_val (G := fun vv _ => vv = .int .i64 (97 + (q : Int))) (v := .int .i64 (97 + (q : Int))) (by simp [execOp, e48, hk, go_sem, show IntKind.i64.wrap (97 + (q : Int)) = 97 + (q : Int) by rw [IntKind.wrap_i64]; omega]) rfl
        · intro ρ wx hE hx hd
          replace hE := Ext.undrew hE
          have e49 : ρ (.tmp 49) = .int .i64 (97 + (q : Int)) := hd.1
          exact gives_val (G := fun vv _ => vv = .int .u8 (97 + (q : Int))) (v := .int .u8 (97 + (q : Int))) (by simp [execOp, e49, go_sem, show IntKind.u8.wrap (97 + (q : Int)) = 97 + (q : Int) by rw [IntKind.wrap_u8]; omega]) rfl
        · intro ρ wx hE hx hd
          replace hE := Ext.undrew hE
          have e51 : ρ (.tmp 51) = .int .i64 k := hd.1
          have hk : ∀ v, ρ (.const v) = v := fun v => (hx (.const v) (by simp)).trans rfl
          exact gives_val (G := fun vv _ => vv = .int .i64 (r : Int)) (v := .int .i64 (r : Int)) (by simp [execOp, e51, hk, go_sem, HR1.out, show IntKind.i64.wrap (r : Int) = (r : Int) by rw [IntKind.wrap_i64]; omega]) rfl
        · intro ρ wx hE hx hd
          replace hE := Ext.undrew hE
          have e52 : ρ (.tmp 52) = .int .i64 (r : Int) := hd.1
          have hk : ∀ v, ρ (.const v) = v := fun v => (hx (.const v) (by simp)).trans rfl
          exact gives_val (G := fun vv _ => vv = .int .i64 (97 + (r : Int))) (v := .int .i64 (97 + (r : Int))) (by simp [execOp, e52, hk, go_sem, show IntKind.i64.wrap (97 + (r : Int)) = 97 + (r : Int) by rw [IntKind.wrap_i64]; omega]) rfl
        · intro ρ wx hE hx hd
          replace hE := Ext.undrew hE
          have e53 : ρ (.tmp 53) = .int .i64 (97 + (r : Int)) := hd.1
          exact gives_val (G := fun vv _ => vv = .int .u8 (97 + (r : Int))) (v := .int .u8 (97 + (r : Int))) (by simp [execOp, e53, go_sem, show IntKind.u8.wrap (97 + (r : Int)) = 97 + (r : Int) by rw [IntKind.wrap_u8]; omega]) rfl
        · intro ρ wx hE hx hd
          replace hE := Ext.undrew hE
          have e50 : ρ (.tmp 50) = .int .u8 (97 + (q : Int)) := hd.1
          have e54 : ρ (.tmp 54) = .int .u8 (97 + (r : Int)) := hd.2.1
          exact gives_new (G := fun v w => ∃ b, v = .slice (some ⟨b, 0, none⟩) 2 2 ∧ View Rp.u8 w (fun _ => True) [xa, xb] v) (v := .slice (some ⟨wx.heap.size, 0, none⟩) 2 2) (w' := wx.alloc (.cells #[.int .u8 (97 + (q : Int)), .int .u8 (97 + (r : Int))] 5)) (by simp [execOp, e50, e54, go_sem]) (below_new wx _) ⟨wx.heap.size, rfl, view_cells [xa, xb] 2 (blk_new wx _) (by simp [u8v, HXA.out, HXB.out]) rfl trivial⟩
        · intro ρ wx hE hx hd
          replace hE := Ext.undrew hE
          have e55 := hd.1
          obtain ⟨b, h1, h2⟩ := e55; exact gives_val (G := fun vv _ => vv = .string S2) (v := .string S2) (by rw [h1] at h2; have h3 := run_string Try.underlying28 Try.underlying5 Try.underlying9 h2; rw [HS2.out] at h3; simp [execOp, h1, h3, go_sem]) rfl
        · intro ρ wx hE hx hd
          replace hE := Ext.undrew hE
          have e56 : ρ (.tmp 56) = .string S2 := hd.1
          have hk : ∀ v, ρ (.const v) = v := fun v => (hx (.const v) (by simp)).trans rfl
          exact gives_val (G := fun vv _ => vv = .string NM) (v := .string NM) (by simp [execOp, e56, hk, go_sem, HNQ.out, HSZ2.out]) rfl
        · intro ρ wx hE hx hd
          replace hE := Ext.undrew hE
          have e58 : ρ (.tmp 58) = .int .i64 m := hd.1
          have e59 : ρ (.tmp 59) = .int .i64 k := hd.2.1
          have hf : ∀ f, ρ (.func f) = .func (.func f) #[] #[] := fun f => (hx (.func f) (by simp)).trans rfl
          exact gives_call (G := fun v w => ∃ b, v = .slice (some ⟨b, 0, none⟩) m m ∧ View Rp.u8 w (fun j => n3 ≤ j) (lawB m k) v) (by simp [execOp, e58, e59, hf, go_sem] <;> first | exact ⟨rfl, rfl⟩ | exact rfl) ((bytes4_any (m : Int) m (by omega) (k : Int) wx (by omega) (by omega) (by omega)).mono fun e w' ⟨h1, h2, h3, _⟩ => ⟨_, h1, h3, _, rfl, h2.mono fun j hj => by have := hE.size; have := HN3.out; omega⟩)
        · intro ρ wx hE hx hd
          replace hE := Ext.undrew hE
          have e60 := hd.1
          obtain ⟨b, h1, h2⟩ := e60; exact gives_new (G := fun v w => ∃ b, v = .slice (some ⟨b, 0, none⟩) 1 1 ∧ View Rp.u8.view w (fun j => n3 ≤ j) [lawB m k] v) (v := .slice (some ⟨wx.heap.size, 0, none⟩) 1 1) (w' := wx.alloc (.cells #[.slice (some ⟨b, 0, none⟩) m m] 28)) (by simp [execOp, h1, go_sem]) (below_new wx _) ⟨wx.heap.size, rfl, view_rows1 (blk_new wx _) ((h1 ▸ h2).below (below_new wx _)) (by have := hE.size; have := HN3.out; show n3 ≤ _; omega)⟩
      intro wx hE
      refine fun v46 (e46 : v46 = .pointer (some ⟨d0, 0, none⟩)) => ?_
      refine fun v47 (e47 : v47 = .int .i64 k) => ?_
      refine fun v48 (e48 : v48 = .int .i64 (q : Int)) => ?_
      refine fun v49 (e49 : v49 = .int .i64 (97 + (q : Int))) => ?_
      refine fun v50 (e50 : v50 = .int .u8 (97 + (q : Int))) => ?_
      refine fun v51 (e51 : v51 = .int .i64 k) => ?_
      refine fun v52 (e52 : v52 = .int .i64 (r : Int)) => ?_
      refine fun v53 (e53 : v53 = .int .i64 (97 + (r : Int))) => ?_
      refine fun v54 (e54 : v54 = .int .u8 (97 + (r : Int))) => ?_
      refine fun v55 e55 => ?_
      refine fun v56 (e56 : v56 = .string S2) => ?_
      refine fun v57 (e57 : v57 = .string NM) => ?_
      refine fun v58 (e58 : v58 = .int .i64 m) => ?_
      refine fun v59 (e59 : v59 = .int .i64 k) => ?_
      refine fun v60 e60 => ?_
      refine fun v61 e61 => ?_
      subst e46 e47 e48 e49 e50 e51 e52 e53 e54 e56 e57 e58 e59
      refine rest_nil ?_
      simp only [List.drop_succ_cons, List.drop_zero, Act.put, List.setIfInBounds_toArray, List.set_cons_zero, List.set_cons_succ]
      obtain ⟨b61, rfl, hv61⟩ := e61
      have HDX := Lib.hid (HO.out.below (P' := fun _ => False) hE (fun k h => h.elim))
      have HV61 := Lib.hid hv61
      have hbad : badName (nmF k) = false := by unfold badName nmF; simp
      have hlk : look fs (nmF k) = none := look_none_iff.2 fun hm => by
        obtain ⟨y, hy, e⟩ := List.mem_map.1 hm
        obtain ⟨j, hj, hyn⟩ := HNM.out y hy
        have := nmF_inj (by omega) hk9 (hyn.symm.trans e)
        omega
      have HBAD := Lib.hid hbad; have HLK := Lib.hid hlk
      clear hbad hlk hv61 e55 e60 HO
      by_cases hA : (m : Int) > room - (U : Int)
      · go_wp2_with fail
        refine (append_one HDX.out (fun k h => h.elim) (by show k ≤ 1000000; omega) (by show usedN fs ≤ 1000000000; rw [HU.out]; omega) (by show fs.length ≤ 1000; rw [HFN.out]; omega) NM HNMs.out [lawB m k] _ _ HV61.out (by omega) (by simp) (by rw [lenSum_one, lawB_len]; omega) (E := 3) (dk' := { room := room, fs := fs, ops := k + 1 })
          (by rw [HTN.out, List.flatten_cons, List.flatten_nil, List.append_nil, append_new _ _ _ rfl HBAD.out HLK.out]; rw [if_pos (.inr (by show ((usedN fs : Nat) : Int) + (lawB m k).length > room; rw [HU.out, lawB_len]; omega))]; rfl)).mono ?_
        rintro e w4 ⟨rfl, hd4, _⟩
        have HD4 := Lib.hid hd4
        clear hd4 HDX HV61 hE
        go_wp2_with fail
        go_roundw
        case rel => exact ⟨k + 1, fs, by omega, by go_num, by rw [HU.out], by rw [HFN.out], HD4.out, by rw [HU.out]; exact hus, by rw [HFN.out]; exact hfl, fun y hy => by obtain ⟨j, hj, e⟩ := HNM.out y hy; exact ⟨j, by omega, e⟩⟩
        case measure => simp [intOf]; omega
      by_cases hB : (Fn : Int) ≥ 64
      · go_wp2_with fail
        refine (append_one HDX.out (fun k h => h.elim) (by show k ≤ 1000000; omega) (by show usedN fs ≤ 1000000000; rw [HU.out]; omega) (by show fs.length ≤ 1000; rw [HFN.out]; omega) NM HNMs.out [lawB m k] _ _ HV61.out (by omega) (by simp) (by rw [lenSum_one, lawB_len]; omega) (E := 3) (dk' := { room := room, fs := fs, ops := k + 1 })
          (by rw [HTN.out, List.flatten_cons, List.flatten_nil, List.append_nil, append_new _ _ _ rfl HBAD.out HLK.out]; rw [if_pos (.inl (by show fs.length ≥ 64; rw [HFN.out]; omega))]; rfl)).mono ?_
        rintro e w4 ⟨rfl, hd4, _⟩
        have HD4 := Lib.hid hd4
        clear hd4 HDX HV61 hE
        go_wp2_with fail
        go_roundw
        case rel => exact ⟨k + 1, fs, by omega, by go_num, by rw [HU.out], by rw [HFN.out], HD4.out, by rw [HU.out]; exact hus, by rw [HFN.out]; exact hfl, fun y hy => by obtain ⟨j, hj, e⟩ := HNM.out y hy; exact ⟨j, by omega, e⟩⟩
        case measure => simp [intOf]; omega
      · go_wp2_with fail
        refine (append_one HDX.out (fun k h => h.elim) (by show k ≤ 1000000; omega) (by show usedN fs ≤ 1000000000; rw [HU.out]; omega) (by show fs.length ≤ 1000; rw [HFN.out]; omega) NM HNMs.out [lawB m k] _ _ HV61.out (by omega) (by simp) (by rw [lenSum_one, lawB_len]; omega) (E := 0) (dk' := { room := room, fs := putF fs ⟨nmF k, lawB m k, 0⟩, ops := k + 1 })
          (by rw [HTN.out, List.flatten_cons, List.flatten_nil, List.append_nil, append_new _ _ _ rfl HBAD.out HLK.out]; rw [if_neg (fun h => h.elim (fun h => by have h : fs.length ≥ 64 := h; rw [HFN.out] at h; omega) (fun h => by have h : ((usedN fs : Nat) : Int) + (lawB m k).length > room := h; rw [HU.out, lawB_len] at h; omega))]; rfl)).mono ?_
        rintro e w4 ⟨rfl, hd4, _⟩
        have HD4 := Lib.hid hd4
        clear hd4 HDX HV61 hE
        go_wp2_with fail
        go_roundw
        case rel =>
          refine ⟨k + 1, putF fs ⟨nmF k, lawB m k, 0⟩, by omega, by go_num, ?_, ?_, HD4.out, ?_, ?_, fun y hy => ?_⟩
          · rw [putF_used, HU.out, lawB_len]; go_num
          · rw [putF_len, HFN.out]; go_num
          · rw [putF_used, HU.out, lawB_len]; omega
          · rw [putF_len, HFN.out]; omega
          · rcases (mem_putF _ _ y).1 hy with rfl | hy
            · exact ⟨k, by omega, rfl⟩
            · obtain ⟨j, hj, e⟩ := HNM.out y hy; exact ⟨j, by omega, e⟩
        case measure => simp [intOf]; omega
    · obtain rfl : k = l.length := by omega
      obtain ⟨g5, t5, m5, hdd⟩ := HO.out.dat
      have HDD := Lib.hid hdd
      clear hdd
      go_wp2_with fail
      refine (names_any HDD.out (by show fs.length ≤ 1000000; rw [HFN.out]; omega)).mono ?_
      rintro e w4 ⟨v, rfl, hv4, hb4⟩
      obtain ⟨VA, vc, rfl, _⟩ := hv4.slice
      rw [show (names ({ room := room, fs := fs, ops := l.length } : Dk).fs).length = Fn by rw [← HFN.out]; simp [names]]
      have HB4 : Hid (Below d0 w w4) := Lib.hid (HO.out.bel.trans (hb4.mono (Nat.le_of_lt HO.out.lt)))
      have HZ4 : Hid (d0 < w4.heap.size) := Lib.hid (by have := hb4.size; have := HO.out.lt; omega)
      clear hv4 hb4
      go_wp2_with fail
      refine (awake4_any w4).mono ?_
      rintro e w5 ⟨rfl, hb5⟩
      have HB5 : Hid (Below d0 w w5) := Lib.hid (HB4.out.trans (hb5.mono (Nat.le_of_lt HZ4.out)))
      clear hb5
      go_wp2_with fail
      go_ret
      exact hR _ _ ⟨rfl, HB5.out⟩
theorem full_row {w : World} (k : Int) (_ : -9223372036854775808 ≤ k) (_ : k ≤ 9223372036854775807) (l : List Int) (v : Value) (F : Nat → Prop) (hb : l.length * Try.prog.bytesOf 3 ≤ 140737488351232 ∧ ∀ x ∈ l, -9223372036854775808 ≤ x ∧ x ≤ 9223372036854775807) (hv : View Rp.int w F l v) :
    Calls Try.prog 4 #[.int .i64 k, v] w fun e w' => e = .returned (.bool true) ∧ Below w.heap.size w w' := full_walk k l v F hv
end Go.Proofs.Ytlfcbhagbdonhaa.Asc
