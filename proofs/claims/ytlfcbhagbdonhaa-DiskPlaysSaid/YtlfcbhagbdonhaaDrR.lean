/-
  DiskPlays: whatever is called, the disk answers as the document's, and has the same files.
  Lengths within the row's own reach.
-/
import Derived.Test.YtlfcbhagbdonhaaDrQ
namespace Go.Proofs.Ytlfcbhagbdonhaa.Asc
set_option linter.unusedSimpArgs false
set_option linter.unusedVariables false
open Go Go.RowKit Go.Proofs.Ytlfcbhagbdonhaa.Pb

abbrev Stp := Int × List UInt8 × List UInt8 × Int × List Int
def szS (x : Stp) : Int := max x.2.2.2.1 0 + x.2.1.length + x.2.2.1.length + x.2.2.2.2.length
def sumS (l : List Stp) : Int := (l.map szS).sum
theorem sumS_take {l : List Stp} {k : Nat} {x : Stp} (h : l[k]? = some x) : sumS (l.take (k + 1)) = sumS (l.take k) + szS x := by
  unfold sumS; rw [List.take_add_one, h]; simp
theorem szS_nonneg (x : Stp) : 0 ≤ szS x := by unfold szS; omega
theorem sumS_mem : ∀ {l : List Stp} {x : Stp}, x ∈ l → szS x ≤ sumS l
  | [], x, h => by simp at h
  | y :: l, x, h => by
    have h2 : sumS (y :: l) = szS y + sumS l := by simp [sumS]
    have h3 : 0 ≤ sumS l := by
      have : ∀ l : List Stp, 0 ≤ sumS l := fun l => by
        induction l with
        | nil => exact Int.le_refl _
        | cons z l ih => have h4 : sumS (z :: l) = szS z + sumS l := by simp [sumS]
                         have := szS_nonneg z; omega
      exact this l
    have := szS_nonneg y
    rcases List.mem_cons.1 h with rfl | h
    · omega
    · have := sumS_mem h; omega

theorem sumS_bound (M : Int) : ∀ {l : List Stp}, (∀ x ∈ l, szS x ≤ M) → sumS l ≤ l.length * M
  | [], _ => by simp [sumS]
  | y :: l, h => by
    have h2 : sumS (y :: l) = szS y + sumS l := by simp [sumS]
    have h3 := sumS_bound M (l := l) fun x hx => h x (by simp [hx])
    have h4 := h y (by simp)
    have h5 : ((y :: l).length : Int) * M = (l.length : Int) * M + M := by rw [List.length_cons]; push_cast; rw [Int.add_mul, Int.one_mul]
    omega
theorem sumS_nonneg : ∀ l : List Stp, 0 ≤ sumS l
  | [] => Int.le_refl _
  | z :: l => by
    have h4 : sumS (z :: l) = szS z + sumS l := by simp [sumS]
    have := szS_nonneg z
    have := sumS_nonneg l
    omega

section
set_option maxHeartbeats 8000000 in
set_option maxRecDepth 20000 in
theorem small4_any {w : World} (l : List Stp) (v : Value) (G : Nat → Prop) (hv : View stp w G l v) (hl : l.length ≤ 140737488351232) (hs : ∀ x ∈ l, -9223372036854775808 ≤ x.2.2.2.1 ∧ x.2.1.length ≤ 140737488351232 ∧ x.2.2.1.length ≤ 140737488351232 ∧ x.2.2.2.2.length ≤ 140737488351232) :
    Calls Try.prog 24 #[v] w fun e w' => ∃ r : Bool, e = .returned (.bool r) ∧ Below w.heap.size w w' ∧ (r = true → l.length ≤ 100 ∧ ∀ x ∈ l, x.2.2.2.1 ≤ 3000 ∧ szS x ≤ 60000) := by
  refine calls_gen fun R hR => ?_
  obtain ⟨A, c, rfl, hc, hget⟩ := stp_get hv
  have HV := Lib.hid hv; have HS := Lib.hid hs
  obtain ⟨m, hm⟩ : ∃ m, l.length = m := ⟨_, rfl⟩
  have HM := Lib.hid hm
  rw [hm] at hc hl hR ⊢
  clear hv hs hget hm
  go_enter Try.func24, Try.ntmps24
  go_wp2_with fail
  go_loopw [3, 4] (fun nv i wr => ∃ (k : Nat) (z : Int), k ≤ m ∧ i = .int .i64 k ∧ nv = .int .i64 z ∧ (k ≤ 100 → z = sumS (l.take k)) ∧ (∀ x ∈ l.take k, x.2.2.2.1 ≤ 3000) ∧ Below w.heap.size w wr) (fun _ i _ => m - (intOf i).toNat)
  case atStart => exact ⟨0, 0, Nat.zero_le _, rfl, rfl, fun _ => rfl, by simp, Below.refl _ _⟩
  case round =>
    obtain ⟨k, z, hk, rfl, rfl, hz, hall, hbr⟩ := hrel
    have HZ := Lib.hid hz; have HALL := Lib.hid hall; have HBR := Lib.hid hbr
    clear hz hall hbr
    by_cases hkm : k < m
    · obtain ⟨x, hx⟩ : ∃ x, l[k]? = some x := ⟨_, List.getElem?_eq_getElem (by rw [HM.out]; exact hkm)⟩
      have hxb := HS.out x (List.mem_of_getElem? hx)
      obtain ⟨A', c', e', _, hget⟩ := stp_get (HV.out.below HBR.out)
      obtain ⟨rfl, he1, he2⟩ := Value.slice.inj e'
      obtain ⟨g, off, rfl, hgl, _, hgx⟩ := hget k (by rw [HM.out]; exact hkm)
      obtain ⟨B, c'', _, d0, d1, d2, d3, d4⟩ := hgx x hx
      have HTK := Lib.hid (sumS_take hx)
      have HTA : Hid (l.take (k + 1) = l.take k ++ [x]) := Lib.hid (by rw [List.take_add_one, hx]; rfl)
      clear hx e' he1 he2 hget hgx d0
      obtain ⟨x0, x1, x2, x3, x4⟩ := x
      dsimp only at hxb d1 d2 d3 d4
      obtain ⟨X1, hX1⟩ : ∃ X, ofL x1 = X := ⟨_, rfl⟩
      obtain ⟨X2, hX2⟩ : ∃ X, ofL x2 = X := ⟨_, rfl⟩
      obtain ⟨n4, hn4⟩ : ∃ n, x4.length = n := ⟨_, rfl⟩
      have h1s : X1.size = x1.length := by rw [← hX1, ofL_size]
      have h2s : X2.size = x2.length := by rw [← hX2, ofL_size]
      rw [hX1] at d1; rw [hX2] at d2; rw [hn4] at d4
      have HD1 := Lib.hid d1; have HD2 := Lib.hid d2; have HD3 := Lib.hid d3; have HD4 := Lib.hid d4
      have HSZ : Hid (szS (x0, x1, x2, x3, x4) = max x3 0 + (X1.size : Int) + (X2.size : Int) + (n4 : Int)) := Lib.hid (by unfold szS; show max x3 0 + (x1.length : Int) + x2.length + x4.length = _; rw [h1s, h2s, hn4])
      have HXB : Hid (-9223372036854775808 ≤ x3 ∧ (X1.size : Int) ≤ 140737488351232 ∧ (X2.size : Int) ≤ 140737488351232 ∧ (n4 : Int) ≤ 140737488351232) := Lib.hid (by rw [h1s, h2s, ← hn4]; omega)
      have hki : (k : Int) < (m : Int) := by omega
      clear hX1 hX2 hn4 h1s h2s hxb
      by_cases h3 : x3 > 3000
      · go_wp2_with fail
        go_ret
        exact hR _ _ ⟨false, rfl, HBR.out, fun h => by cases h⟩
      · have HMAX : Hid (∀ (ts : Array TypeId) (ty : TypeId) (wx : World), (Builtin.max_ ts ty #[.int .i64 x3, .int .i64 0]).run Try.prog wx = .ok (.int .i64 (max x3 0)) wx) := Lib.hid fun ts ty wx => by
          have h1 : (Builtin.max_ ts ty #[.int .i64 x3, .int .i64 0]).run Try.prog wx = .ok (.int .i64 (if (0 : Int) > x3 then 0 else x3)) wx := run_max_int2 ..
          rw [h1]
          have h2 : (if (0 : Int) > x3 then (0 : Int) else x3) = max x3 0 := by omega
          rw [h2]
        obtain ⟨zz, hzz⟩ : ∃ zz, IntKind.wrap .i64 (IntKind.wrap .i64 (IntKind.wrap .i64 (IntKind.wrap .i64 (z + max x3 0) + (X1.size : Int)) + (X2.size : Int)) + (n4 : Int)) = zz := ⟨_, rfl⟩
        have HZZ := Lib.hid hzz
        have HZN : Hid (k + 1 ≤ 100 → zz = sumS (l.take (k + 1))) := Lib.hid fun hk1 => by
          have h1 := HZ.out (by omega)
          have h2 := sumS_nonneg (l.take k)
          have h3 := sumS_bound 422212465056696 (l := l.take k) fun y hy => by
            have h4 := HALL.out y hy
            have h5 := HS.out y (List.mem_of_mem_take hy)
            unfold szS; omega
          have h6 : ((l.take k).length : Int) ≤ 100 := by have := List.length_take_le k l; omega
          have h7 : ((l.take k).length : Int) * 422212465056696 ≤ 100 * 422212465056696 := Int.mul_le_mul_of_nonneg_right h6 (by decide)
          have h8 := HXB.out
          rw [HTK.out, HSZ.out, ← h1, ← hzz, kwrap_in (z + max x3 0) (by omega), kwrap_in (z + max x3 0 + (X1.size : Int)) (by omega), kwrap_in (z + max x3 0 + (X1.size : Int) + (X2.size : Int)) (by omega), kwrap_in _ (by omega)]
          omega
        clear hzz
        go_upto_region 7 with fail
        clear d1 d2 d3 d4
        refine wp_region_any (by kernel_rfl) ?_
        refine region_ext [(fun vv _ => vv = .int .i64 z), (fun vv _ => vv = .slice (some ⟨g, off, none⟩) m c), (fun vv _ => vv = .int .i64 (k : Int)), (fun vv _ => vv = .pointer (some ⟨g, off + k * 5, none⟩)), (fun vv _ => vv = .pointer (some ⟨g, off + k * 5 + 3, none⟩)), (fun vv _ => vv = .int .i64 x3), (fun vv _ => vv = .int .i64 (max x3 0)), (fun vv _ => vv = .int .i64 (IntKind.wrap .i64 (z + max x3 0))), (fun vv _ => vv = .slice (some ⟨g, off, none⟩) m c), (fun vv _ => vv = .int .i64 (k : Int)), (fun vv _ => vv = .pointer (some ⟨g, off + k * 5, none⟩)), (fun vv _ => vv = .pointer (some ⟨g, off + k * 5 + 1, none⟩)), (fun vv _ => vv = .string X1), (fun vv _ => vv = .int .i64 (X1).size), (fun vv _ => vv = .int .i64 (IntKind.wrap .i64 (IntKind.wrap .i64 (z + max x3 0) + (X1.size : Int)))), (fun vv _ => vv = .slice (some ⟨g, off, none⟩) m c), (fun vv _ => vv = .int .i64 (k : Int)), (fun vv _ => vv = .pointer (some ⟨g, off + k * 5, none⟩)), (fun vv _ => vv = .pointer (some ⟨g, off + k * 5 + 2, none⟩)), (fun vv _ => vv = .string X2), (fun vv _ => vv = .int .i64 (X2).size), (fun vv _ => vv = .int .i64 (IntKind.wrap .i64 (IntKind.wrap .i64 (IntKind.wrap .i64 (z + max x3 0) + (X1.size : Int)) + (X2.size : Int)))), (fun vv _ => vv = .slice (some ⟨g, off, none⟩) m c), (fun vv _ => vv = .int .i64 (k : Int)), (fun vv _ => vv = .pointer (some ⟨g, off + k * 5, none⟩)), (fun vv _ => vv = .pointer (some ⟨g, off + k * 5 + 4, none⟩)), (fun vv _ => vv = .slice B n4 c''), (fun vv _ => vv = .int .i64 n4), (fun vv _ => vv = .int .i64 zz)]
          [[], [], [], [(1, 18), (2, 19)], [(3, 20)], [(4, 21)], [(5, 22)], [(0, 17), (6, 23)], [], [], [(8, 25), (9, 26)], [(10, 27)], [(11, 28)], [(12, 29)], [(7, 24), (13, 30)], [], [], [(15, 32), (16, 33)], [(17, 34)], [(18, 35)], [(19, 36)], [(14, 31), (20, 37)], [], [], [(22, 39), (23, 40)], [(24, 41)], [(25, 42)], [(26, 43)], [(21, 38), (27, 44)], []]
          [none, none, none, none, none, none, none, none, none, none, none, none, none, none, none, none, none, none, none, none, none, none, none, none, none, none, none, none, none, none]
          [some 17, some 18, some 19, some 20, some 21, some 22, some 23, some 24, some 25, some 26, some 27, some 28, some 29, some 30, some 31, some 32, some 33, some 34, some 35, some 36, some 37, some 38, some 39, some 40, some 41, some 42, some 43, some 44, some 45] 29 (by kernel_rfl) (by kernel_rfl) (by kernel_rfl) rfl (by kernel_rfl) ?_ ?_ ?_
        · exact ⟨fun _ _ _ _ h => h, fun _ _ _ _ h => h, fun _ _ _ _ h => h, fun _ _ _ _ h => h, fun _ _ _ _ h => h, fun _ _ _ _ h => h, fun _ _ _ _ h => h, fun _ _ _ _ h => h, fun _ _ _ _ h => h, fun _ _ _ _ h => h, fun _ _ _ _ h => h, fun _ _ _ _ h => h, fun _ _ _ _ h => h, fun _ _ _ _ h => h, fun _ _ _ _ h => h, fun _ _ _ _ h => h, fun _ _ _ _ h => h, fun _ _ _ _ h => h, fun _ _ _ _ h => h, fun _ _ _ _ h => h, fun _ _ _ _ h => h, fun _ _ _ _ h => h, fun _ _ _ _ h => h, fun _ _ _ _ h => h, fun _ _ _ _ h => h, fun _ _ _ _ h => h, fun _ _ _ _ h => h, fun _ _ _ _ h => h, fun _ _ _ _ h => h, trivial⟩
        · refine ⟨fun ρ wx _ hx _ => gives_move (hx (.tmp 3) (by simp)), fun ρ wx _ hx _ => gives_move (hx (.tmp 0) (by simp)), fun ρ wx _ hx _ => gives_move (hx (.tmp 4) (by simp)), ?_, ?_, ?_, ?_, ?_, fun ρ wx _ hx _ => gives_move (hx (.tmp 0) (by simp)), fun ρ wx _ hx _ => gives_move (hx (.tmp 4) (by simp)), ?_, ?_, ?_, ?_, ?_, fun ρ wx _ hx _ => gives_move (hx (.tmp 0) (by simp)), fun ρ wx _ hx _ => gives_move (hx (.tmp 4) (by simp)), ?_, ?_, ?_, ?_, ?_, fun ρ wx _ hx _ => gives_move (hx (.tmp 0) (by simp)), fun ρ wx _ hx _ => gives_move (hx (.tmp 4) (by simp)), ?_, ?_, ?_, ?_, ?_, trivial⟩
          · intro ρ wx hE hx hd
            replace hE := Ext.undrew hE
            have e18 : ρ (.tmp 18) = .slice (some ⟨g, off, none⟩) m c := hd.1
            have e19 : ρ (.tmp 19) = .int .i64 (k : Int) := hd.2.1
            exact gives_val (G := fun vv _ => vv = .pointer (some ⟨g, off + k * 5, none⟩)) (v := .pointer (some ⟨g, off + k * 5, none⟩)) (by simp [execOp, e18, e19, go_sem, hki]) rfl
          · intro ρ wx hE hx hd
            replace hE := Ext.undrew hE
            have e20 : ρ (.tmp 20) = .pointer (some ⟨g, off + k * 5, none⟩) := hd.1
            exact gives_val (G := fun vv _ => vv = .pointer (some ⟨g, off + k * 5 + 3, none⟩)) (v := .pointer (some ⟨g, off + k * 5 + 3, none⟩)) (by simp [execOp, e20, go_sem]) rfl
          · intro ρ wx hE hx hd
            replace hE := Ext.undrew hE
            have e21 : ρ (.tmp 21) = .pointer (some ⟨g, off + k * 5 + 3, none⟩) := hd.1
            have hcl := ext_cell hE HD3.out
            exact gives_val (G := fun vv _ => vv = .int .i64 x3) (v := .int .i64 x3) (by simp [execOp, e21, hcl, go_sem]) rfl
          · intro ρ wx hE hx hd
            replace hE := Ext.undrew hE
            have e22 : ρ (.tmp 22) = .int .i64 x3 := hd.1
            have hk : ∀ v, ρ (.const v) = v := fun v => (hx (.const v) (by simp)).trans rfl
            exact gives_val (G := fun vv _ => vv = .int .i64 (max x3 0)) (v := .int .i64 (max x3 0)) (by simp only [execOp, builtin, e22]; simp [HMAX.out, go_sem, e22, hk]) rfl
          · intro ρ wx hE hx hd
            replace hE := Ext.undrew hE
            have e17 : ρ (.tmp 17) = .int .i64 z := hd.1
            have e23 : ρ (.tmp 23) = .int .i64 (max x3 0) := hd.2.1
            exact gives_val (G := fun vv _ => vv = .int .i64 (IntKind.wrap .i64 (z + max x3 0))) (v := .int .i64 (IntKind.wrap .i64 (z + max x3 0))) (by simp [execOp, e17, e23, go_sem]) rfl
          · intro ρ wx hE hx hd
            replace hE := Ext.undrew hE
            have e25 : ρ (.tmp 25) = .slice (some ⟨g, off, none⟩) m c := hd.1
            have e26 : ρ (.tmp 26) = .int .i64 (k : Int) := hd.2.1
            exact gives_val (G := fun vv _ => vv = .pointer (some ⟨g, off + k * 5, none⟩)) (v := .pointer (some ⟨g, off + k * 5, none⟩)) (by simp [execOp, e25, e26, go_sem, hki]) rfl
          · intro ρ wx hE hx hd
            replace hE := Ext.undrew hE
            have e27 : ρ (.tmp 27) = .pointer (some ⟨g, off + k * 5, none⟩) := hd.1
            exact gives_val (G := fun vv _ => vv = .pointer (some ⟨g, off + k * 5 + 1, none⟩)) (v := .pointer (some ⟨g, off + k * 5 + 1, none⟩)) (by simp [execOp, e27, go_sem]) rfl
          · intro ρ wx hE hx hd
            replace hE := Ext.undrew hE
            have e28 : ρ (.tmp 28) = .pointer (some ⟨g, off + k * 5 + 1, none⟩) := hd.1
            have hcl := ext_cell hE HD1.out
            exact gives_val (G := fun vv _ => vv = .string X1) (v := .string X1) (by simp [execOp, e28, hcl, go_sem]) rfl
          · intro ρ wx hE hx hd
            replace hE := Ext.undrew hE
            have e29 : ρ (.tmp 29) = .string X1 := hd.1
            exact gives_val (G := fun vv _ => vv = .int .i64 (X1).size) (v := .int .i64 (X1).size) (by simp [execOp, e29, go_sem]) rfl
          · intro ρ wx hE hx hd
            replace hE := Ext.undrew hE
            have e24 : ρ (.tmp 24) = .int .i64 (IntKind.wrap .i64 (z + max x3 0)) := hd.1
            have e30 : ρ (.tmp 30) = .int .i64 (X1).size := hd.2.1
            exact gives_val (G := fun vv _ => vv = .int .i64 (IntKind.wrap .i64 (IntKind.wrap .i64 (z + max x3 0) + (X1.size : Int)))) (v := .int .i64 (IntKind.wrap .i64 (IntKind.wrap .i64 (z + max x3 0) + (X1.size : Int)))) (by simp [execOp, e24, e30, go_sem]) rfl
          · intro ρ wx hE hx hd
            replace hE := Ext.undrew hE
            have e32 : ρ (.tmp 32) = .slice (some ⟨g, off, none⟩) m c := hd.1
            have e33 : ρ (.tmp 33) = .int .i64 (k : Int) := hd.2.1
            exact gives_val (G := fun vv _ => vv = .pointer (some ⟨g, off + k * 5, none⟩)) (v := .pointer (some ⟨g, off + k * 5, none⟩)) (by simp [execOp, e32, e33, go_sem, hki]) rfl
          · intro ρ wx hE hx hd
            replace hE := Ext.undrew hE
            have e34 : ρ (.tmp 34) = .pointer (some ⟨g, off + k * 5, none⟩) := hd.1
            exact gives_val (G := fun vv _ => vv = .pointer (some ⟨g, off + k * 5 + 2, none⟩)) (v := .pointer (some ⟨g, off + k * 5 + 2, none⟩)) (by simp [execOp, e34, go_sem]) rfl
          · intro ρ wx hE hx hd
            replace hE := Ext.undrew hE
            have e35 : ρ (.tmp 35) = .pointer (some ⟨g, off + k * 5 + 2, none⟩) := hd.1
            have hcl := ext_cell hE HD2.out
            exact gives_val (G := fun vv _ => vv = .string X2) (v := .string X2) (by simp [execOp, e35, hcl, go_sem]) rfl
          · intro ρ wx hE hx hd
            replace hE := Ext.undrew hE
            have e36 : ρ (.tmp 36) = .string X2 := hd.1
            exact gives_val (G := fun vv _ => vv = .int .i64 (X2).size) (v := .int .i64 (X2).size) (by simp [execOp, e36, go_sem]) rfl
          · intro ρ wx hE hx hd
            replace hE := Ext.undrew hE
            have e31 : ρ (.tmp 31) = .int .i64 (IntKind.wrap .i64 (IntKind.wrap .i64 (z + max x3 0) + (X1.size : Int))) := hd.1
            have e37 : ρ (.tmp 37) = .int .i64 (X2).size := hd.2.1
            exact gives_val (G := fun vv _ => vv = .int .i64 (IntKind.wrap .i64 (IntKind.wrap .i64 (IntKind.wrap .i64 (z + max x3 0) + (X1.size : Int)) + (X2.size : Int)))) (v := .int .i64 (IntKind.wrap .i64 (IntKind.wrap .i64 (IntKind.wrap .i64 (z + max x3 0) + (X1.size : Int)) + (X2.size : Int)))) (by simp [execOp, e31, e37, go_sem]) rfl
          · intro ρ wx hE hx hd
            replace hE := Ext.undrew hE
            have e39 : ρ (.tmp 39) = .slice (some ⟨g, off, none⟩) m c := hd.1
            have e40 : ρ (.tmp 40) = .int .i64 (k : Int) := hd.2.1
            exact gives_val (G := fun vv _ => vv = .pointer (some ⟨g, off + k * 5, none⟩)) (v := .pointer (some ⟨g, off + k * 5, none⟩)) (by simp [execOp, e39, e40, go_sem, hki]) rfl
          · intro ρ wx hE hx hd
            replace hE := Ext.undrew hE
            have e41 : ρ (.tmp 41) = .pointer (some ⟨g, off + k * 5, none⟩) := hd.1
            exact gives_val (G := fun vv _ => vv = .pointer (some ⟨g, off + k * 5 + 4, none⟩)) (v := .pointer (some ⟨g, off + k * 5 + 4, none⟩)) (by simp [execOp, e41, go_sem]) rfl
          · intro ρ wx hE hx hd
            replace hE := Ext.undrew hE
            have e42 : ρ (.tmp 42) = .pointer (some ⟨g, off + k * 5 + 4, none⟩) := hd.1
            have hcl := ext_cell hE HD4.out
            exact gives_val (G := fun vv _ => vv = .slice B n4 c'') (v := .slice B n4 c'') (by simp [execOp, e42, hcl, go_sem]) rfl
          · intro ρ wx hE hx hd
            replace hE := Ext.undrew hE
            have e43 : ρ (.tmp 43) = .slice B n4 c'' := hd.1
            exact gives_val (G := fun vv _ => vv = .int .i64 n4) (v := .int .i64 n4) (by simp [execOp, e43, go_sem]) rfl
          · intro ρ wx hE hx hd
            replace hE := Ext.undrew hE
            have e38 : ρ (.tmp 38) = .int .i64 (IntKind.wrap .i64 (IntKind.wrap .i64 (IntKind.wrap .i64 (z + max x3 0) + (X1.size : Int)) + (X2.size : Int))) := hd.1
            have e44 : ρ (.tmp 44) = .int .i64 n4 := hd.2.1
            exact gives_val (G := fun vv _ => vv = .int .i64 zz) (v := .int .i64 zz) (by simp [execOp, e38, e44, go_sem, HZZ.out]) rfl
        intro wx hE
        refine fun v17 (e17 : v17 = .int .i64 z) => ?_
        refine fun v18 (e18 : v18 = .slice (some ⟨g, off, none⟩) m c) => ?_
        refine fun v19 (e19 : v19 = .int .i64 (k : Int)) => ?_
        refine fun v20 (e20 : v20 = .pointer (some ⟨g, off + k * 5, none⟩)) => ?_
        refine fun v21 (e21 : v21 = .pointer (some ⟨g, off + k * 5 + 3, none⟩)) => ?_
        refine fun v22 (e22 : v22 = .int .i64 x3) => ?_
        refine fun v23 (e23 : v23 = .int .i64 (max x3 0)) => ?_
        refine fun v24 (e24 : v24 = .int .i64 (IntKind.wrap .i64 (z + max x3 0))) => ?_
        refine fun v25 (e25 : v25 = .slice (some ⟨g, off, none⟩) m c) => ?_
        refine fun v26 (e26 : v26 = .int .i64 (k : Int)) => ?_
        refine fun v27 (e27 : v27 = .pointer (some ⟨g, off + k * 5, none⟩)) => ?_
        refine fun v28 (e28 : v28 = .pointer (some ⟨g, off + k * 5 + 1, none⟩)) => ?_
        refine fun v29 (e29 : v29 = .string X1) => ?_
        refine fun v30 (e30 : v30 = .int .i64 (X1).size) => ?_
        refine fun v31 (e31 : v31 = .int .i64 (IntKind.wrap .i64 (IntKind.wrap .i64 (z + max x3 0) + (X1.size : Int)))) => ?_
        refine fun v32 (e32 : v32 = .slice (some ⟨g, off, none⟩) m c) => ?_
        refine fun v33 (e33 : v33 = .int .i64 (k : Int)) => ?_
        refine fun v34 (e34 : v34 = .pointer (some ⟨g, off + k * 5, none⟩)) => ?_
        refine fun v35 (e35 : v35 = .pointer (some ⟨g, off + k * 5 + 2, none⟩)) => ?_
        refine fun v36 (e36 : v36 = .string X2) => ?_
        refine fun v37 (e37 : v37 = .int .i64 (X2).size) => ?_
        refine fun v38 (e38 : v38 = .int .i64 (IntKind.wrap .i64 (IntKind.wrap .i64 (IntKind.wrap .i64 (z + max x3 0) + (X1.size : Int)) + (X2.size : Int)))) => ?_
        refine fun v39 (e39 : v39 = .slice (some ⟨g, off, none⟩) m c) => ?_
        refine fun v40 (e40 : v40 = .int .i64 (k : Int)) => ?_
        refine fun v41 (e41 : v41 = .pointer (some ⟨g, off + k * 5, none⟩)) => ?_
        refine fun v42 (e42 : v42 = .pointer (some ⟨g, off + k * 5 + 4, none⟩)) => ?_
        refine fun v43 (e43 : v43 = .slice B n4 c'') => ?_
        refine fun v44 (e44 : v44 = .int .i64 n4) => ?_
        refine fun v45 (e45 : v45 = .int .i64 zz) => ?_
        subst e17 e18 e19 e20 e21 e22 e23 e24 e25 e26 e27 e28 e29 e30 e31 e32 e33 e34 e35 e36 e37 e38 e39 e40 e41 e42 e43 e44 e45
        refine rest_nil ?_
        simp only [List.drop_succ_cons, List.drop_zero, Act.put, List.setIfInBounds_toArray, List.set_cons_zero, List.set_cons_succ]
        have HEX := Lib.hid hE
        clear hE
        go_wp2_with fail
        go_roundw
        case rel =>
          exact ⟨k + 1, zz, by omega, by go_num, rfl, HZN.out, fun y hy => by
            rw [HTA.out] at hy
            rcases List.mem_append.1 hy with hy | hy
            · exact HALL.out y hy
            · rw [List.mem_singleton] at hy; rw [hy]; show x3 ≤ 3000; omega, HBR.out.trans (HEX.out.mono HBR.out.size)⟩
        case measure => simp [intOf]; omega
    · obtain rfl : m = k := by omega
      have HALL2 : Hid (∀ x ∈ l, x.2.2.2.1 ≤ 3000) := Lib.hid (by have := HALL.out; rwa [← HM.out, List.take_length] at this)
      have HZ2 : Hid (m ≤ 100 → z = sumS l) := Lib.hid fun h => by have := HZ.out h; rwa [← HM.out, List.take_length] at this
      by_cases h100 : m ≤ 100
      · by_cases hz6 : z ≤ 60000
        · have h100' : (m : Int) ≤ 100 := by omega
          go_wp2_with fail
          go_ret
          exact hR _ _ ⟨true, rfl, HBR.out, fun _ => ⟨h100, fun x hx => ⟨HALL2.out x hx, by have := sumS_mem hx; have := HZ2.out h100; omega⟩⟩⟩
        · have h100' : (m : Int) ≤ 100 := by omega
          go_wp2_with fail
          go_ret
          exact hR _ _ ⟨false, rfl, HBR.out, fun h => by cases h⟩
      · have h100' : ¬ (m : Int) ≤ 100 := by omega
        go_wp2_with fail
        go_ret
        exact hR _ _ ⟨false, rfl, HBR.out, fun h => by cases h⟩

set_option maxHeartbeats 8000000 in
set_option maxRecDepth 20000 in
theorem plays_walk {w : World} (room : Int) (l : List Stp) (v : Value) (G : Nat → Prop) (hv : View stp w G l v) (hl : l.length ≤ 140737488351232) (hs : ∀ x ∈ l, -9223372036854775808 ≤ x.2.2.2.1 ∧ x.2.1.length ≤ 140737488351232 ∧ x.2.2.1.length ≤ 140737488351232 ∧ x.2.2.2.2.length ≤ 140737488351232) :
    Calls Try.prog 7 #[.int .i64 room, v] w fun e w' => e = .returned (.bool true) ∧ Below w.heap.size w w' := by
  refine calls_gen fun R hR => ?_
  obtain ⟨A, c, rfl, hc, _⟩ := stp_get hv
  have HV := Lib.hid hv.bnd
  have HS := Lib.hid hs
  have HSM := Lib.hid (small4_any l _ G hv hl hs)
  obtain ⟨m, hm⟩ : ∃ m, l.length = m := ⟨_, rfl⟩
  have HM := Lib.hid hm
  rw [hm] at hc hl ⊢
  rw [hm] at HSM HV
  obtain ⟨B0, hB0⟩ : ∃ B0, w.heap.size = B0 := ⟨_, rfl⟩
  have HB0 := Lib.hid hB0
  clear hv hs hm hB0
  go_enter Try.func7, Try.ntmps7
  go_wp2_with fail
  refine HSM.out.mono ?_
  rintro e w1 ⟨r, rfl, hb1, hr⟩
  have HB1 := Lib.hid hb1; have HRR := Lib.hid hr
  clear hb1 hr HSM
  cases r with
  | false =>
    go_wp2_with fail
    refine (awake4_any w1).mono ?_
    rintro e w2 ⟨rfl, hb2⟩
    have HB2 := Lib.hid hb2
    clear hb2
    go_wp2_with fail
    go_ret
    exact hR _ _ ⟨rfl, HB1.out.trans (HB2.out.mono HB1.out.size)⟩
  | true =>
    obtain ⟨hm100, hall⟩ := HRR.out rfl
    have HALL := Lib.hid hall
    clear hall
    go_wp2_with fail
    refine (new_any room w1).mono ?_
    rintro e w2 ⟨hn1, hn2⟩
    by_cases hroom : room < 0 ∨ 4194304 < room
    · obtain ⟨rfl, hw2⟩ := hn1 hroom
      rw [hw2]
      clear hn1 hn2 hw2
      go_wp2_with fail
      refine (rnew_any room w1).mono ?_
      rintro e w3 ⟨hn1, hn2⟩
      obtain ⟨rfl, hw3⟩ := hn1 hroom
      rw [hw3]
      clear hn1 hn2 hw3 hroom
      go_wp2_with fail
      refine (awake4_any w1).mono ?_
      rintro e w4 ⟨rfl, hb4⟩
      have HB4 := Lib.hid hb4
      clear hb4
      go_wp2_with fail
      go_ret
      exact hR _ _ ⟨rfl, HB1.out.trans (HB4.out.mono HB1.out.size)⟩
    · obtain ⟨rfl, hd2, hb2⟩ := hn2 (by omega) (by omega)
      have HD2 : Hid (DAt w2 (fun k => w1.heap.size < k) w1.heap.size { room := room }) := Lib.hid ⟨_, _, _, hd2⟩
      have HB2 := Lib.hid hb2
      clear hn1 hn2 hd2 hb2
      go_wp2_with fail
      refine (rnew_any room w2).mono ?_
      rintro e w3 ⟨hn1, hn2⟩
      obtain ⟨rfl, hd3, hb3⟩ := hn2 (by omega) (by omega)
      have hbw : B0 ≤ w1.heap.size := by have := HB1.out.size; rw [HB0.out] at this; exact this
      have HT3 := Lib.hid (two4_new (B0 := B0) HD2.out HB2.out hd3 hb3 hbw)
      have HB3 : Hid (Below B0 w w3) := Lib.hid (by
        have h1 : Below B0 w w1 := HB0.out ▸ HB1.out
        exact (h1.trans (HB2.out.mono hbw)).trans (hb3.mono (by have := HB2.out.size; omega)))
      have HF3 : Hid (Fits { room := room }) := Lib.hid ⟨by show 0 ≤ room; omega, by show room ≤ 4194304; omega, by show ((0 : Nat) : Int) ≤ room; omega, by show 0 ≤ 64; decide⟩
      clear hn1 hn2 hd3 hb3
      go_wp2_with fail
      go_loopw [5, 7, 9] (fun dv mv i wr => ∃ (k d b : Nat) (dk : Dk) (S F : Nat → Prop), k ≤ m ∧ i = .int .i64 k ∧ dv = .pointer (some ⟨d, 0, none⟩) ∧ mv = .pointer (some ⟨b, 0, none⟩) ∧ Two4 B0 wr S F d b dk dk ∧ Fits dk ∧ dk.ops ≤ k ∧ Below B0 w wr) (fun _ _ i _ => m - (intOf i).toNat)
      case atStart => exact ⟨0, _, _, _, _, _, Nat.zero_le _, rfl, rfl, rfl, HT3.out, HF3.out, Nat.le_refl _, HB3.out⟩
      case round =>
        obtain ⟨k, d, b, dk, S, F, hk, rfl, rfl, rfl, ht, hf, ho, hbr⟩ := hrel
        have HT := Lib.hid ht; have HF := Lib.hid hf; have HBR := Lib.hid hbr
        clear ht hf hbr
        by_cases hkm : k < m
        · obtain ⟨x, hx⟩ : ∃ x, l[k]? = some x := ⟨_, List.getElem?_eq_getElem (by rw [HM.out]; exact hkm)⟩
          obtain ⟨hx3, hxz⟩ := HALL.out x (List.mem_of_getElem? hx)
          obtain ⟨A', c', e', _, hget⟩ := stp_get (HV.out.below (by rw [HB0.out]; exact HBR.out))
          obtain ⟨rfl, he1, he2⟩ := Value.slice.inj e'
          obtain ⟨g, off, rfl, hgl, _, hgx⟩ := hget k (by rw [HM.out]; exact hkm)
          obtain ⟨B, c'', hpv, d0, d1, d2, d3, d4⟩ := hgx x hx
          clear hx e' he1 he2 hget hgx
          obtain ⟨x0, x1, x2, x3, x4⟩ := x
          dsimp only at hx3 d0 d1 d2 d3 d4 hpv
          unfold szS at hxz
          dsimp only at hxz
          obtain ⟨X1, hX1⟩ : ∃ X, ofL x1 = X := ⟨_, rfl⟩
          obtain ⟨X2, hX2⟩ : ∃ X, ofL x2 = X := ⟨_, rfl⟩
          have h1s : X1.size = x1.length := by rw [← hX1, ofL_size]
          have h2s : X2.size = x2.length := by rw [← hX2, ofL_size]
          have hz1 : X1.size ≤ 60000 := by omega
          have hz2 : X2.size ≤ 60000 := by omega
          have hz4 : x4.length ≤ 60000 := by omega
          rw [hX1] at d1; rw [hX2] at d2
          have hki : (k : Int) < (m : Int) := by omega
          have HPV := Lib.hid hpv
          obtain ⟨n4, hn4⟩ : ∃ n, x4.length = n := ⟨_, rfl⟩
          have HN4 := Lib.hid hn4
          rw [hn4] at d4
          clear hX1 hX2 h1s h2s hxz hpv hn4
          go_wp2_with fail
          refine (does4_post HT.out HF.out (by omega) x0 X1 X2 x3 (.slice B n4 c'') x4 _ (by rw [← HN4.out]; exact HPV.out) (fun j hj => by have := hj.2; rw [HB0.out] at this; exact this) hz1 hz2 hx3 hz4 k (by omega) (by omega)).mono ?_
          rintro e w4 ⟨d', b', dk', S', F', rfl, ht4, hf4, ho4, hb4⟩
          have HT4 := Lib.hid ht4; have HF4 := Lib.hid hf4; have HB4 := Lib.hid (HBR.out.trans hb4)
          clear ht4 hf4 hb4 d0 d1 d2 d3 d4
          go_wp2_with fail
          refine (same4_any HT4.out HF4.out (by omega)).mono ?_
          rintro e w5 ⟨rfl, hb5⟩
          have HT5 := Lib.hid (HT4.out.below hb5)
          have HB5 := Lib.hid (HB4.out.trans (hb5.mono HT4.out.b0))
          clear hb5
          go_wp2_with fail
          go_roundw
          case rel => exact ⟨k + 1, d', b', dk', S', F', by omega, by go_num, rfl, rfl, HT5.out, HF4.out, by omega, HB5.out⟩
          case measure => simp [intOf]; omega
        · obtain rfl : m = k := by omega
          go_wp2_with fail
          refine (awake4_any wr).mono ?_
          rintro e w4 ⟨rfl, hb4⟩
          have HB4 := Lib.hid hb4
          clear hb4
          go_wp2_with fail
          go_ret
          have hbz := HT.out.b0
          exact hR _ _ ⟨rfl, by rw [HB0.out]; exact HBR.out.trans (HB4.out.mono hbz)⟩
theorem plays_row {w : World} (k : Int) (_ : -9223372036854775808 ≤ k) (_ : k ≤ 9223372036854775807) (l : List Stp) (v : Value) (F : Nat → Prop) (hb : l.length * Try.prog.bytesOf 56 ≤ 140737488351232 ∧ ∀ x ∈ l, (-9223372036854775808 ≤ x.1 ∧ x.1 ≤ 9223372036854775807) ∧ x.2.1.length ≤ 140737488351232 ∧ x.2.2.1.length ≤ 140737488351232 ∧ (-9223372036854775808 ≤ x.2.2.2.1 ∧ x.2.2.2.1 ≤ 9223372036854775807) ∧ x.2.2.2.2.length * Try.prog.bytesOf 3 ≤ 140737488351232 ∧ ∀ y ∈ x.2.2.2.2, -9223372036854775808 ≤ y ∧ y ≤ 9223372036854775807) (hv : View stp w F l v) :
    Calls Try.prog 7 #[.int .i64 k, v] w fun e w' => e = .returned (.bool true) ∧ Below w.heap.size w w' := by
  have h1 : Try.prog.bytesOf 56 = 72 := by kernel_rfl
  have h2 : Try.prog.bytesOf 3 = 8 := by kernel_rfl
  rw [h1] at hb
  refine plays_walk k l v F hv (by omega) fun x hx => ?_
  obtain ⟨_, h3, h4, h5, h6, _⟩ := hb.2 x hx
  rw [h2] at h6
  omega
end
end Go.Proofs.Ytlfcbhagbdonhaa.Asc
