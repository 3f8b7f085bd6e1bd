/-
  Contracts: shares in memory; whether shares are looked at; what the document fixes.
  Arguments within the rows' own reach; the library's MaxLen is a number.
-/
import Derived.Test.YtalbadmefpdldaaDoorCorC
namespace Go.Proofs.YtalbadmefpdldaaDoor.Asc
open Go Go.RowKit Go.Proofs.YtalbadmefpdldaaDoor.Pb

/-- a share: its origin, its methods, its headers, whether with credentials -/
abbrev Sh := Tx × List Tx × List Tx × Bool
def shr : Rp Sh := Rp.str.pair (Rp.str.view.pair (Rp.str.view.pair Rp.bool))
theorem shs_get {w : World} {G : Nat → Prop} {l : List Sh} {v : Value} (h : View shr w G l v) :
    ∃ A c, v = .slice A l.length c ∧ l.length ≤ c ∧ (∀ k, k < l.length → ∃ g off, A = some ⟨g, off, none⟩ ∧ g < w.heap.size ∧ ∀ x, l[k]? = some x →
      ∃ mv hv, w.cell? ⟨g, off + k * 4, none⟩ = some (.string (ofL x.1)) ∧ w.cell? ⟨g, off + k * 4 + 1, none⟩ = some mv ∧ w.cell? ⟨g, off + k * 4 + 2, none⟩ = some hv ∧ w.cell? ⟨g, off + k * 4 + 3, none⟩ = some (.bool x.2.2.2) ∧ View Rp.str w G x.2.1 mv ∧ View Rp.str w G x.2.2.1 hv) := by
  obtain ⟨A, c, rfl, hc, hA, h⟩ := h
  refine ⟨A, c, rfl, hc, fun k hk => ?_⟩
  rcases h with rfl | ⟨g, off, cells, rfl, hG, hlt, hat, hel⟩
  · simp at hk
  · refine ⟨g, off, rfl, hlt, fun x hx => ?_⟩
    obtain ⟨us, cs, bs, rfl, ha, hr, _, _⟩ := hel.get (fun _ _ h => shr.len h) k hk
    have hx' : l[k] = x := by rw [List.getElem?_eq_getElem hk] at hx; exact Option.some.inj hx
    rw [hx'] at hr
    obtain ⟨c1, c2, rfl, rfl, d1, d2, rfl, ⟨mv, rfl, hmv⟩, e1, e2, rfl, ⟨hv, rfl, hhv⟩, rfl⟩ := hr
    have h3 : us.length = k * 4 := ha
    have hcell : ∀ j y, ([Value.string (ofL x.1)] ++ ([mv] ++ ([hv] ++ [Value.bool x.2.2.2])))[j]? = some y → w.cell? ⟨g, off + k * 4 + j, none⟩ = some y := by
      intro j y hj
      have hjl := (List.getElem?_eq_some_iff.1 hj).1
      rw [Nat.add_assoc]
      refine hat (k * 4 + j) y ?_
      rw [List.append_assoc, List.getElem?_append_right (by omega), h3, Nat.add_sub_cancel_left, List.getElem?_append_left hjl]; exact hj
    exact ⟨mv, hv, hcell 0 _ rfl, hcell 1 _ rfl, hcell 2 _ rfl, hcell 3 _ rfl, hmv, hhv⟩
theorem share_rep {w : World} {F : Nat → Prop} {x : Sh} {cs : List Value} (h : shr.rep w F x cs) : ∃ mv hv, cs = [.string (ofL x.1), mv, hv, .bool x.2.2.2] ∧ View Rp.str w F x.2.1 mv ∧ View Rp.str w F x.2.2.1 hv := by
  obtain ⟨c1, c2, rfl, rfl, d1, d2, rfl, ⟨mv, rfl, hmv⟩, e1, e2, rfl, ⟨hv, rfl, hhv⟩, rfl⟩ := h
  exact ⟨mv, hv, rfl, hmv, hhv⟩
theorem rep_share {w : World} {F : Nat → Prop} (O : ByteArray) (ms hs : List Tx) (mv hv : Value) (c : Bool) (h1 : View Rp.str w F ms mv) (h2 : View Rp.str w F hs hv) : shr.rep w F (toL O, ms, hs, c) [.string O, mv, hv, .bool c] :=
  ⟨[_], [mv, hv, .bool c], rfl, (by show [Value.string O] = [Value.string (ofL (toL O))]; rw [ofL_toL]), [mv], [hv, .bool c], rfl, ⟨mv, rfl, h1⟩, [hv], [.bool c], rfl, ⟨hv, rfl, h2⟩, rfl⟩

/-- within the rows' own reach -/
def shOk (x : Sh) : Prop := x.1.length ≤ 140737488351232 ∧ (x.2.1.length ≤ 140737488351232 ∧ ∀ y ∈ x.2.1, y.length ≤ 140737488351232) ∧ (x.2.2.1.length ≤ 140737488351232 ∧ ∀ y ∈ x.2.2.1, y.length ≤ 140737488351232)
def shSm (x : Sh) : Prop := x.1.length ≤ 2000 ∧ total x.2.1 ≤ 2000 ∧ total x.2.2.1 ≤ 2000
def TP (n : Nat) (l : List Tx) : Prop := (n ≤ 2000 → n = total l) ∧ (2000 < n → 2000 < total l) ∧ n ≤ 281474976702464

set_option maxHeartbeats 4000000 in
theorem small_any (l : List Sh) (v : Value) (F : Nat → Prop) (w : World) (hv : View shr w F l v) (hl : l.length ≤ 140737488351232) (hx : ∀ x ∈ l, shOk x) :
    Calls Tryd.prog 10 #[v] w fun e w' => ∃ b, e = .returned (.bool b) ∧ (b = true → l.length ≤ 2000 ∧ ∀ x ∈ l, shSm x) ∧ Below w.heap.size w w' := by
  refine calls_gen fun R hR => ?_
  obtain ⟨A, c, rfl, hcl, hget⟩ := shs_get hv
  have HG := Lib.hid hget; have HXL := Lib.hid hx
  clear hget hv hx
  go_enter Tryd.func10, Tryd.ntmps10
  go_wp2_with fail
  go_loopw [3, 4] (fun n i wr => ∃ (k m : Nat), k ≤ l.length ∧ i = .int .i64 k ∧ n = .int .i64 m ∧ m ≤ 1000000000000000 ∧ Hid (m ≤ 2000 → l.length ≤ m ∧ ∀ x ∈ l.take k, shSm x) ∧ Ext w wr) (fun _ i _ => l.length - (intOf i).toNat)
  case atStart => exact ⟨0, l.length, Nat.zero_le _, rfl, rfl, by omega, Lib.hid fun _ => ⟨Nat.le_refl _, by simp⟩, Ext.refl _⟩
  case round =>
    obtain ⟨k, m, hk, rfl, rfl, hm, HSM, hE⟩ := hrel
    have HE := Lib.hid hE
    have hbs := hE.size
    clear hE
    by_cases hlt : k < l.length
    · by_cases hm2 : m ≤ 2000
      · obtain ⟨g, off, rfl, hg, hx⟩ := HG.out k hlt
        obtain ⟨x, he⟩ : ∃ x, l[k]? = some x := ⟨_, List.getElem?_eq_getElem hlt⟩
        obtain ⟨mv, hv, c0, c1, c2, c3, hmv, hhv⟩ := hx x he
        have d0 := ext_cell HE.out c0
        have d1 := ext_cell HE.out c1
        have d2 := ext_cell HE.out c2
        have HOK := Lib.hid (HXL.out x (List.mem_of_getElem? he))
        have HMV := Lib.hid hmv; have HHV := Lib.hid hhv
        have HTK := Lib.hid (fun y => (show y ∈ l.take (k + 1) ↔ y ∈ l.take k ∨ y = x by rw [List.take_add_one, he]; simp))
        have hgr : g < wr.heap.size := by omega
        obtain ⟨X, hX⟩ : ∃ X, ofL x.1 = X := ⟨_, rfl⟩
        have hXs : X.size = x.1.length := by rw [← hX, ofL_size]
        have hXb : X.size ≤ 140737488351232 := by rw [hXs]; exact HOK.out.1
        have HXS := Lib.hid hXs
        rw [hX] at d0
        have hq0 : (0 : Int) ≤ (k : Int) := by omega
        have hq1 : (k : Int) < (l.length : Int) := by omega
        have hw1 : IntKind.wrap .i64 ((m : Int) + (X.size : Int)) = (m : Int) + (X.size : Int) := kwrap_in _ (by omega)
        clear hx he hmv hhv c0 c1 c2 c3 hX hXs
        go_upto_region 5 with fail
        refine wp_region_any (by kernel_rfl) ?_
        refine region_ext [(fun vv _ => vv = .int .i64 m), (fun vv _ => vv = .slice (some ⟨g, off, none⟩) l.length c), (fun vv _ => vv = .int .i64 k), (fun vv _ => vv = .pointer (some ⟨g, off + k * 4, none⟩)), (fun vv _ => vv = .pointer (some ⟨g, off + k * 4, none⟩)), (fun vv _ => vv = .string X), (fun vv _ => vv = .int .i64 (X).size), (fun vv _ => vv = .int .i64 ((m : Int) + (X.size : Int))), (fun vv _ => vv = .slice (some ⟨g, off, none⟩) l.length c), (fun vv _ => vv = .int .i64 k), (fun vv _ => vv = .pointer (some ⟨g, off + k * 4, none⟩)), (fun vv _ => vv = .pointer (some ⟨g, off + k * 4 + 1, none⟩)), (fun vv _ => vv = mv), (fun v w => ∃ n : Nat, v = .int .i64 n ∧ TP n x.2.1), (fun v w => ∃ n : Nat, v = .int .i64 ((m : Int) + (X.size : Int) + (n : Int)) ∧ TP n x.2.1), (fun vv _ => vv = .slice (some ⟨g, off, none⟩) l.length c), (fun vv _ => vv = .int .i64 k), (fun vv _ => vv = .pointer (some ⟨g, off + k * 4, none⟩)), (fun vv _ => vv = .pointer (some ⟨g, off + k * 4 + 2, none⟩)), (fun vv _ => vv = hv), (fun v w => ∃ n : Nat, v = .int .i64 n ∧ TP n x.2.2.1), (fun v w => ∃ n q : Nat, v = .int .i64 ((m : Int) + (X.size : Int) + (n : Int) + (q : Int)) ∧ TP n x.2.1 ∧ TP q x.2.2.1)]
          [[], [], [], [(1, 18), (2, 19)], [(3, 20)], [(4, 21)], [(5, 22)], [(0, 17), (6, 23)], [], [], [(8, 25), (9, 26)], [(10, 27)], [(11, 28)], [(12, 29)], [(7, 24), (13, 30)], [], [], [(15, 32), (16, 33)], [(17, 34)], [(18, 35)], [(19, 36)], [(14, 31), (20, 37)], []]
          [none, none, none, none, none, none, none, none, none, none, none, none, none, none, none, none, none, none, none, none, none, none, none]
          [some 17, some 18, some 19, some 20, some 21, some 22, some 23, some 24, some 25, some 26, some 27, some 28, some 29, some 30, some 31, some 32, some 33, some 34, some 35, some 36, some 37, some 38] 22 (by kernel_rfl) (by kernel_rfl) (by kernel_rfl) rfl (by kernel_rfl) ?_ ?_ ?_
        · exact ⟨fun _ _ _ _ h => h, fun _ _ _ _ h => h, fun _ _ _ _ h => h, fun _ _ _ _ h => h, fun _ _ _ _ h => h, fun _ _ _ _ h => h, fun _ _ _ _ h => h, fun _ _ _ _ h => h, fun _ _ _ _ h => h, fun _ _ _ _ h => h, fun _ _ _ _ h => h, fun _ _ _ _ h => h, fun _ _ _ _ h => h, fun _ _ _ _ h => h, fun _ _ _ _ h => h, fun _ _ _ _ h => h, fun _ _ _ _ h => h, fun _ _ _ _ h => h, fun _ _ _ _ h => h, fun _ _ _ _ h => h, fun _ _ _ _ h => h, fun _ _ _ _ h => h, trivial⟩
        · refine ⟨fun ρ wx _ hx _ => gives_move (hx (.tmp 3) (by simp)), fun ρ wx _ hx _ => gives_move (hx (.tmp 0) (by simp)), fun ρ wx _ hx _ => gives_move (hx (.tmp 4) (by simp)), ?_, ?_, ?_, ?_, ?_, fun ρ wx _ hx _ => gives_move (hx (.tmp 0) (by simp)), fun ρ wx _ hx _ => gives_move (hx (.tmp 4) (by simp)), ?_, ?_, ?_, ?_, ?_, fun ρ wx _ hx _ => gives_move (hx (.tmp 0) (by simp)), fun ρ wx _ hx _ => gives_move (hx (.tmp 4) (by simp)), ?_, ?_, ?_, ?_, ?_, trivial⟩
          · intro ρ wx hE hx hd
            replace hE := Ext.undrew hE
            have e18 : ρ (.tmp 18) = .slice (some ⟨g, off, none⟩) l.length c := hd.1
            have e19 : ρ (.tmp 19) = .int .i64 k := hd.2.1
            exact gives_val (G := fun vv _ => vv = .pointer (some ⟨g, off + k * 4, none⟩)) (v := .pointer (some ⟨g, off + k * 4, none⟩)) (by simp [execOp, e18, e19, hq0, hq1, go_sem]) rfl
          · intro ρ wx hE hx hd
            replace hE := Ext.undrew hE
            have e20 : ρ (.tmp 20) = .pointer (some ⟨g, off + k * 4, none⟩) := hd.1
            exact gives_val (G := fun vv _ => vv = .pointer (some ⟨g, off + k * 4, none⟩)) (v := .pointer (some ⟨g, off + k * 4, none⟩)) (by simp [execOp, e20, go_sem]) rfl
          · intro ρ wx hE hx hd
            replace hE := Ext.undrew hE
            have e21 : ρ (.tmp 21) = .pointer (some ⟨g, off + k * 4, none⟩) := hd.1
            have hcl := ext_cell hE d0
            exact gives_val (G := fun vv _ => vv = .string X) (v := .string X) (by simp [execOp, e21, hcl, go_sem]) rfl
          · intro ρ wx hE hx hd
            replace hE := Ext.undrew hE
            have e22 : ρ (.tmp 22) = .string X := hd.1
            exact gives_val (G := fun vv _ => vv = .int .i64 (X).size) (v := .int .i64 (X).size) (by simp [execOp, e22, go_sem]) rfl
          · intro ρ wx hE hx hd
            replace hE := Ext.undrew hE
            have e17 : ρ (.tmp 17) = .int .i64 m := hd.1
            have e23 : ρ (.tmp 23) = .int .i64 (X).size := hd.2.1
            exact gives_val (G := fun vv _ => vv = .int .i64 ((m : Int) + (X.size : Int))) (v := .int .i64 ((m : Int) + (X.size : Int))) (by simp [execOp, e17, e23, hw1, go_sem]) rfl
          · intro ρ wx hE hx hd
            replace hE := Ext.undrew hE
            have e25 : ρ (.tmp 25) = .slice (some ⟨g, off, none⟩) l.length c := hd.1
            have e26 : ρ (.tmp 26) = .int .i64 k := hd.2.1
            exact gives_val (G := fun vv _ => vv = .pointer (some ⟨g, off + k * 4, none⟩)) (v := .pointer (some ⟨g, off + k * 4, none⟩)) (by simp [execOp, e25, e26, hq0, hq1, go_sem]) rfl
          · intro ρ wx hE hx hd
            replace hE := Ext.undrew hE
            have e27 : ρ (.tmp 27) = .pointer (some ⟨g, off + k * 4, none⟩) := hd.1
            exact gives_val (G := fun vv _ => vv = .pointer (some ⟨g, off + k * 4 + 1, none⟩)) (v := .pointer (some ⟨g, off + k * 4 + 1, none⟩)) (by simp [execOp, e27, go_sem]) rfl
          · intro ρ wx hE hx hd
            replace hE := Ext.undrew hE
            have e28 : ρ (.tmp 28) = .pointer (some ⟨g, off + k * 4 + 1, none⟩) := hd.1
            have hcl := ext_cell hE d1
            exact gives_val (G := fun vv _ => vv = mv) (v := mv) (by simp [execOp, e28, hcl, go_sem]) rfl
          · intro ρ wx hE hx hd
            replace hE := Ext.undrew hE
            have e29 : ρ (.tmp 29) = mv := hd.1
            have hk : ∀ v, ρ (.const v) = v := fun v => (hx (.const v) (by simp)).trans rfl
            have hf : ∀ f, ρ (.func f) = .func (.func f) #[] #[] := fun f => (hx (.func f) (by simp)).trans rfl
            refine gives_call (G := fun v _ => ∃ n : Nat, v = .int .i64 n ∧ TP n x.2.1) (by simp [execOp, e29, hf, hk, go_sem] <;> first | exact ⟨rfl, rfl⟩ | exact rfl) ((total_any x.2.1 mv _ wx 2000 (by omega) HOK.out.2.1.2 HOK.out.2.1.1 (HMV.out.below (Ext.trans HE.out hE))).mono fun e w' h => ?_); obtain ⟨rfl, n, rfl, h1, h2, h3⟩ := h; exact ⟨_, rfl, Ext.refl _, n, rfl, h1, h2, h3⟩
          · intro ρ wx hE hx hd
            replace hE := Ext.undrew hE
            have e24 : ρ (.tmp 24) = .int .i64 ((m : Int) + (X.size : Int)) := hd.1
            have e30 := hd.2.1
            obtain ⟨n, hv1, hn1⟩ := e30; have hw2 : IntKind.wrap .i64 ((m : Int) + (X.size : Int) + (n : Int)) = (m : Int) + (X.size : Int) + (n : Int) := kwrap_in _ (by have := hn1.2.2; omega); exact gives_val (G := fun v _ => ∃ n : Nat, v = .int .i64 ((m : Int) + (X.size : Int) + (n : Int)) ∧ TP n x.2.1) (v := .int .i64 ((m : Int) + (X.size : Int) + (n : Int))) (by simp [execOp, e24, hv1, hw2, go_sem]) ⟨n, rfl, hn1⟩
          · intro ρ wx hE hx hd
            replace hE := Ext.undrew hE
            have e32 : ρ (.tmp 32) = .slice (some ⟨g, off, none⟩) l.length c := hd.1
            have e33 : ρ (.tmp 33) = .int .i64 k := hd.2.1
            exact gives_val (G := fun vv _ => vv = .pointer (some ⟨g, off + k * 4, none⟩)) (v := .pointer (some ⟨g, off + k * 4, none⟩)) (by simp [execOp, e32, e33, hq0, hq1, go_sem]) rfl
          · intro ρ wx hE hx hd
            replace hE := Ext.undrew hE
            have e34 : ρ (.tmp 34) = .pointer (some ⟨g, off + k * 4, none⟩) := hd.1
            exact gives_val (G := fun vv _ => vv = .pointer (some ⟨g, off + k * 4 + 2, none⟩)) (v := .pointer (some ⟨g, off + k * 4 + 2, none⟩)) (by simp [execOp, e34, go_sem]) rfl
          · intro ρ wx hE hx hd
            replace hE := Ext.undrew hE
            have e35 : ρ (.tmp 35) = .pointer (some ⟨g, off + k * 4 + 2, none⟩) := hd.1
            have hcl := ext_cell hE d2
            exact gives_val (G := fun vv _ => vv = hv) (v := hv) (by simp [execOp, e35, hcl, go_sem]) rfl
          · intro ρ wx hE hx hd
            replace hE := Ext.undrew hE
            have e36 : ρ (.tmp 36) = hv := hd.1
            have hk : ∀ v, ρ (.const v) = v := fun v => (hx (.const v) (by simp)).trans rfl
            have hf : ∀ f, ρ (.func f) = .func (.func f) #[] #[] := fun f => (hx (.func f) (by simp)).trans rfl
            refine gives_call (G := fun v _ => ∃ n : Nat, v = .int .i64 n ∧ TP n x.2.2.1) (by simp [execOp, e36, hf, hk, go_sem] <;> first | exact ⟨rfl, rfl⟩ | exact rfl) ((total_any x.2.2.1 hv _ wx 2000 (by omega) HOK.out.2.2.2 HOK.out.2.2.1 (HHV.out.below (Ext.trans HE.out hE))).mono fun e w' h => ?_); obtain ⟨rfl, n, rfl, h1, h2, h3⟩ := h; exact ⟨_, rfl, Ext.refl _, n, rfl, h1, h2, h3⟩
          · intro ρ wx hE hx hd
            replace hE := Ext.undrew hE
            have e31 := hd.1
            have e37 := hd.2.1
            obtain ⟨n, hv1, hn1⟩ := e31; obtain ⟨q, hv2, hn2⟩ := e37; have hw2 : IntKind.wrap .i64 ((m : Int) + (X.size : Int) + (n : Int) + (q : Int)) = (m : Int) + (X.size : Int) + (n : Int) + (q : Int) := kwrap_in _ (by have := hn1.2.2; have := hn2.2.2; omega); exact gives_val (G := fun v _ => ∃ n q : Nat, v = .int .i64 ((m : Int) + (X.size : Int) + (n : Int) + (q : Int)) ∧ TP n x.2.1 ∧ TP q x.2.2.1) (v := .int .i64 ((m : Int) + (X.size : Int) + (n : Int) + (q : Int))) (by simp [execOp, hv1, hv2, hw2, go_sem]) ⟨n, q, rfl, hn1, hn2⟩
        intro wx hE
        refine fun v17 (e17 : v17 = .int .i64 m) => ?_
        refine fun v18 (e18 : v18 = .slice (some ⟨g, off, none⟩) l.length c) => ?_
        refine fun v19 (e19 : v19 = .int .i64 k) => ?_
        refine fun v20 (e20 : v20 = .pointer (some ⟨g, off + k * 4, none⟩)) => ?_
        refine fun v21 (e21 : v21 = .pointer (some ⟨g, off + k * 4, none⟩)) => ?_
        refine fun v22 (e22 : v22 = .string X) => ?_
        refine fun v23 (e23 : v23 = .int .i64 (X).size) => ?_
        refine fun v24 (e24 : v24 = .int .i64 ((m : Int) + (X.size : Int))) => ?_
        refine fun v25 (e25 : v25 = .slice (some ⟨g, off, none⟩) l.length c) => ?_
        refine fun v26 (e26 : v26 = .int .i64 k) => ?_
        refine fun v27 (e27 : v27 = .pointer (some ⟨g, off + k * 4, none⟩)) => ?_
        refine fun v28 (e28 : v28 = .pointer (some ⟨g, off + k * 4 + 1, none⟩)) => ?_
        refine fun v29 (e29 : v29 = mv) => ?_
        refine fun v30 e30 => ?_
        refine fun v31 e31 => ?_
        refine fun v32 (e32 : v32 = .slice (some ⟨g, off, none⟩) l.length c) => ?_
        refine fun v33 (e33 : v33 = .int .i64 k) => ?_
        refine fun v34 (e34 : v34 = .pointer (some ⟨g, off + k * 4, none⟩)) => ?_
        refine fun v35 (e35 : v35 = .pointer (some ⟨g, off + k * 4 + 2, none⟩)) => ?_
        refine fun v36 (e36 : v36 = hv) => ?_
        refine fun v37 e37 => ?_
        refine fun v38 e38 => ?_
        subst e17 e18 e19 e20 e21 e22 e23 e24 e25 e26 e27 e28 e29 e32 e33 e34 e35 e36
        refine rest_nil ?_
        simp only [List.drop_succ_cons, List.drop_zero, Act.put, List.setIfInBounds_toArray, List.set_cons_zero, List.set_cons_succ]
        obtain ⟨n0, e30, hn0⟩ := e30
        obtain ⟨n1, e31, hn1⟩ := e31
        obtain ⟨n2, e37, hn2⟩ := e37
        obtain ⟨n3, q3, e38, hn3, hq3⟩ := e38
        subst e30 e31 e37 e38
        have HF : Hid (m + X.size + n3 + q3 ≤ 2000 → l.length ≤ m + X.size + n3 + q3 ∧ ∀ y ∈ l.take (k + 1), shSm y) := Lib.hid fun hle => by
          obtain ⟨h1, h2⟩ := HSM.out hm2
          refine ⟨by omega, fun y hy => ?_⟩
          rcases (HTK.out y).1 hy with h | rfl
          · exact h2 y h
          · refine ⟨by have := HXS.out; omega, by rw [← hn3.1 (by omega)]; omega, by rw [← hq3.1 (by omega)]; omega⟩
        have HQ : Hid (m + X.size + n3 + q3 ≤ 1000000000000000) := Lib.hid (by have := hn3.2.2; have := hq3.2.2; omega)
        have HE2 := Lib.hid (Ext.trans HE.out hE)
        have HI : Hid ((m : Int) + (X.size : Int) + (n3 : Int) + (q3 : Int) = ((m + X.size + n3 + q3 : Nat) : Int)) := Lib.hid (by omega)
        clear hn0 hn1 hn2 hn3 hq3 hE hw1
        obtain ⟨M, hM⟩ : ∃ M, m + X.size + n3 + q3 = M := ⟨_, rfl⟩
        rw [HI.out, hM]
        rw [hM] at HF HQ
        clear hM HI
        go_wp2_with fail
        go_roundw
        case rel => exact ⟨k + 1, M, by omega, by go_num, rfl, HQ.out, HF, HE2.out⟩
        case measure => simp [intOf]; omega
      · go_wp2_with fail
        go_ret
        exact hR _ _ ⟨_, rfl, fun h => by simp at h; omega, HE.out⟩
    · obtain rfl : k = l.length := by omega
      go_wp2_with fail
      go_ret
      refine hR _ _ ⟨_, rfl, fun h => ?_, HE.out⟩
      have h2 : m ≤ 2000 := by simp at h; omega
      obtain ⟨h3, h4⟩ := HSM.out h2
      rw [List.take_length] at h4
      exact ⟨by omega, h4⟩
end Go.Proofs.YtalbadmefpdldaaDoor.Asc
