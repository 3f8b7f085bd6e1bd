/-
  The document's disk in memory; contracts of its New, off, Cut, bad.
  Lengths within the rows' own reach.
-/
import Derived.Test.YtlfcbhagbdonhaaDkS
namespace Go.Proofs.Ytlfcbhagbdonhaa.Asc
set_option linter.unusedSimpArgs false
set_option linter.unusedVariables false
open Go Go.RowKit Go.Proofs.Ytlfcbhagbdonhaa.Pb

def rfE : Rp Fl := Rp.iso (Rp.str.pair (Rp.u8.view.pair Rp.int)) (fun f => (f.name, f.b, (f.sy : Int)))
theorem infoFl : (Try.prog.info? 95).map (fun i => (i.zero, i.size, i.bytes)) = some (some (.agg #[.string ByteArray.empty, .slice none 0 0, .int .i64 0]), 3, 48) := by kernel_rfl
theorem rf_get {w : World} {G : Nat → Prop} {l : List Fl} {v : Value} (h : View rfE w G l v) :
    ∃ A c, v = .slice A l.length c ∧ l.length ≤ c ∧ (∀ k, k < l.length → ∃ g off, A = some ⟨g, off, none⟩ ∧ g < w.heap.size ∧ G g ∧ ∀ x, l[k]? = some x → ∃ B c', View Rp.u8 w G x.b (.slice B x.b.length c') ∧ x.b.length ≤ c' ∧
      w.cell? ⟨g, off + k * 3, none⟩ = some (.string (ofL x.name)) ∧ w.cell? ⟨g, off + k * 3 + 1, none⟩ = some (.slice B x.b.length c') ∧ w.cell? ⟨g, off + k * 3 + 2, none⟩ = some (.int .i64 x.sy)) := by
  obtain ⟨A, c, rfl, hc, hA, h⟩ := h
  refine ⟨A, c, rfl, hc, fun k hk => ?_⟩
  rcases h with rfl | ⟨g, off, cells, rfl, hG, hlt, hat, hel⟩
  · simp at hk
  · refine ⟨g, off, rfl, hlt, hG, fun x hx => ?_⟩
    obtain ⟨us, cs, bs, rfl, ha, hr, _, _⟩ := hel.get (fun _ _ h => rfE.len h) k hk
    have hx' : l[k] = x := by rw [List.getElem?_eq_getElem hk] at hx; exact Option.some.inj hx
    rw [hx'] at hr
    obtain ⟨c1, c2, rfl, rfl, d1, d2, rfl, ⟨u, rfl, hu⟩, rfl⟩ := hr
    obtain ⟨B, c', rfl, hc'⟩ : ∃ B c', u = .slice B x.b.length c' ∧ x.b.length ≤ c' := by obtain ⟨B, c', e, h, _⟩ := hu; exact ⟨B, c', e, h⟩
    have hcell : ∀ j y, ([Value.string (ofL x.name)] ++ ([Value.slice B x.b.length c'] ++ [Value.int .i64 x.sy]))[j]? = some y → w.cell? ⟨g, off + k * 3 + j, none⟩ = some y := by
      intro j y hj
      have h3 : us.length = k * 3 := ha
      have hjl := (List.getElem?_eq_some_iff.1 hj).1
      rw [Nat.add_assoc]
      refine hat (k * 3 + j) y ?_
      rw [List.append_assoc, List.getElem?_append_right (by omega), h3, Nat.add_sub_cancel_left, List.getElem?_append_left hjl]; exact hj
    exact ⟨B, c', hu, hc', hcell 0 _ rfl, hcell 1 _ rfl, hcell 2 _ rfl⟩

def rcell (dk : Dk) (lv : Value) (last : Int) : List Value := [.int .i64 dk.room, lv, .int .i64 dk.ops, .int .i64 last]
def LastOk (dk : Dk) (last : Int) : Prop := match dk.lim with
  | none => last = -1
  | some v => 0 ≤ last ∧ last ≤ 2305843009213693952 ∧ ((v : Int) = max (last - dk.ops) 0 ∨ (1152921504606846976 ≤ (v : Int) + dk.ops ∧ 1152921504606846976 ≤ last))
/-- the document's disk lies at b, its rows in blocks of F -/
structure RIn (w : World) (F : Nat → Prop) (b : Nat) (dk : Dk) (lv : Value) (last : Int) : Prop where
  blk : w.heap[b]? = some (.cells (rcell dk lv last).toArray 80 (0, 0))
  row : Own rfE 95 w F dk.fs lv
  out : ¬ F b
  lok : LastOk dk last
def RAt (w : World) (F : Nat → Prop) (b : Nat) (dk : Dk) : Prop := ∃ lv last, RIn w F b dk lv last
section
variable {w w' : World} {F : Nat → Prop} {b : Nat} {dk : Dk} {lv : Value} {last : Int}
theorem RIn.lt (h : RIn w F b dk lv last) : b < w.heap.size := blk_lt h.blk
theorem RIn.mono {F' : Nat → Prop} (h : RIn w F b dk lv last) (hF : ∀ k, k < w.heap.size → F k → F' k) (ho : ¬ F' b) : RIn w F' b dk lv last :=
  ⟨h.blk, h.row.bnd.mono fun k hk => hF k hk.2 hk.1, ho, h.lok⟩
theorem RIn.keep {G : Nat → Prop} (h : RIn w F b dk lv last) (hk : Keep G w w') (hG : ∀ k, F k ∨ k = b → ¬ G k) : RIn w' F b dk lv last :=
  ⟨hk.blk h.blk (hG b (.inr rfl)), h.row.keep hk fun k hk => hG k (.inl hk), h.out, h.lok⟩
theorem RIn.below (h : RIn w F b dk lv last) (hk : Below w.heap.size w w') : RIn w' F b dk lv last :=
  ((h.mono (F' := fun k => F k ∧ k < w.heap.size) (fun k hk h => ⟨h, hk⟩) fun e => h.out e.1).keep (Keep.of_below hk) fun k e => by
    rcases e with e | e
    · omega
    · have := h.lt; omega).mono (fun k _ h => h.1) h.out
theorem RIn.tick (h : RIn w F b dk lv last) (ho : dk.ops ≤ 1000000) : LastOk dk.tick last := by
  have hl := h.lok
  unfold LastOk at hl ⊢
  unfold Dk.tick
  cases hm : dk.lim with
  | none => rw [hm] at hl; exact hl
  | some v =>
    rw [hm] at hl
    obtain ⟨h1, h2, h3⟩ := hl
    refine ⟨h1, h2, ?_⟩
    show (((v - 1 : Nat) : Nat) : Int) = max (last - ((dk.ops + 1 : Nat) : Int)) 0 ∨ (1152921504606846976 ≤ (((v - 1 : Nat) : Nat) : Int) + ((dk.ops + 1 : Nat) : Int) ∧ 1152921504606846976 ≤ last)
    omega
theorem RIn.offv (h : RIn w F b dk lv last) (ho : dk.ops ≤ 1000000) : (last < 0 → dk.off = false) ∧ (0 ≤ last → ((dk.ops : Int) + 1 > last ↔ dk.off = true)) := by
  have hl := h.lok
  unfold LastOk at hl
  unfold Dk.off
  cases hm : dk.lim with
  | none => rw [hm] at hl; exact ⟨fun _ => rfl, fun h => by omega⟩
  | some v =>
    rw [hm] at hl
    obtain ⟨h1, h2, h3⟩ := hl
    refine ⟨fun h => by omega, fun _ => ?_⟩
    rw [beq_iff_eq]
    constructor
    · intro h4
      have : v = 0 := by omega
      rw [this]
    · intro h4
      have : v = 0 := Option.some.inj h4
      omega

theorem rnew_any (room : Int) (w : World) :
    Calls Try.prog 25 #[.int .i64 room] w fun e w' =>
      (room < 0 ∨ 4194304 < room → e = .returned (.tuple #[.pointer none, .int .i64 1]) ∧ w' = w) ∧
      (0 ≤ room → room ≤ 4194304 → e = .returned (.tuple #[.pointer (some ⟨w.heap.size, 0, none⟩), .int .i64 0]) ∧ RAt w' (fun k => w.heap.size < k) w.heap.size { room := room } ∧ Below w.heap.size w w') := by
  refine calls_gen fun R hR => ?_
  go_enter Try.func25, Try.ntmps25
  by_cases h0 : room < 0
  · go_wp2_with fail
    go_ret2
    exact hR _ _ ⟨fun _ => ⟨rfl, rfl⟩, fun h => by omega⟩
  by_cases h1 : room > 4194304
  · go_wp2_with fail
    go_ret2
    exact hR _ _ ⟨fun _ => ⟨rfl, rfl⟩, fun _ h => by omega⟩
  go_wp2_with fail
  go_ret2
  refine hR _ _ ⟨fun h => by omega, fun _ _ => ⟨rfl, ⟨.slice none 0 0, -1, blk_new w _, Own.nil _ _ _ _, by omega, rfl⟩, below_new w _⟩⟩

set_option maxHeartbeats 1000000 in
theorem off_any (h : RIn w F b dk lv last) (ho : dk.ops ≤ 1000000) :
    Calls Try.prog 56 #[.pointer (some ⟨b, 0, none⟩)] w fun e w' => e = .returned (.bool dk.off) ∧ RIn w' F b dk.tick lv last ∧ Keep (fun k => k = b) w w' := by
  refine calls_gen fun R hR => ?_
  have H := Lib.hid h
  have HV := Lib.hid (h.offv ho)
  have c2 := blk_cell h.blk 2
  have f2 := blk_free h.blk 2
  simp only [rcell, List.getElem?_toArray, List.getElem?_cons_zero, List.getElem?_cons_succ] at c2
  have hlt := h.lt
  clear h
  obtain ⟨w1, hw1⟩ : ∃ w1, w.setCell ⟨b, 2, none⟩ (.int .i64 ((dk.ops : Int) + 1)) = w1 := ⟨_, rfl⟩
  have hk1 : Keep (fun k => k = b) w w1 := hw1 ▸ (Keep.refl (fun k => k = b) w).set (p := ⟨b, 2, none⟩) rfl (.int .i64 ((dk.ops : Int) + 1))
  have hb1 : w1.heap[b]? = some (.cells (rcell dk.tick lv last).toArray 80 (0, 0)) := by
    have := blk_set H.out.blk 2 (.int .i64 ((dk.ops : Int) + 1))
    rw [hw1] at this
    have e1 : ((dk.ops + 1 : Nat) : Int) = (dk.ops : Int) + 1 := by omega
    simp only [rcell, Dk.tick, e1]
    exact this
  have HR1 : Hid (RIn w1 F b dk.tick lv last) := Lib.hid ⟨hb1, H.out.row.keep hk1 (fun k hF e => H.out.out (e ▸ hF)), H.out.out, H.out.tick ho⟩
  have HK1 := Lib.hid hk1; have HW1 := Lib.hid hw1
  have HC2 : Hid (w1.cell? ⟨b, 2, none⟩ = some (.int .i64 ((dk.ops : Int) + 1))) := Lib.hid (by
    have := blk_cell hb1 2
    have e1 : ((dk.ops + 1 : Nat) : Int) = (dk.ops : Int) + 1 := by omega
    simp only [rcell, Dk.tick, e1] at this
    exact this)
  have HC3 : Hid (w1.cell? ⟨b, 3, none⟩ = some (.int .i64 last)) := Lib.hid (blk_cell hb1 3)
  clear hk1 hb1 hw1
  go_enter Try.func56, Try.ntmps56
  go_upto_region 2 with fail
  clear c2 f2
  rw [HW1.out]
  by_cases hl0 : last < 0
  · have ho := HV.out.1 hl0
    refine wp_region_any (by kernel_rfl) ?_
    refine region_ext [(fun vv _ => vv = .pointer (some ⟨b, 0, none⟩)), (fun vv _ => vv = .pointer (some ⟨b, 0, none⟩)), (fun vv _ => vv = .pointer (some ⟨b, 3, none⟩)), (fun vv _ => vv = .int .i64 last), (fun vv _ => vv = .bool false), (fun vv _ => vv = .bool false), (fun vv _ => vv = undef), (fun vv _ => vv = undef), (fun vv _ => vv = undef), (fun vv _ => vv = undef), (fun vv _ => vv = undef), (fun vv _ => vv = undef), (fun vv _ => vv = undef), (fun vv _ => vv = undef), (fun vv _ => vv = undef), (fun vv _ => vv = .bool false)]
      [[], [(0, 10)], [(1, 11)], [(2, 12)], [(3, 13)], [(4, 14)], [(5, 15)], [(5, 15), (6, 16)], [(5, 15), (7, 17)], [(5, 15), (8, 18)], [(5, 15)], [(5, 15), (10, 20)], [(5, 15), (11, 21)], [(5, 15), (12, 22)], [(5, 15), (9, 19), (13, 23)], [(5, 15), (14, 24)], []]
      [none, none, none, none, none, none, some (15, true), some (15, true), some (15, true), some (15, true), some (15, true), some (15, true), some (15, true), some (15, true), some (15, true), none, none]
      [some 10, some 11, some 12, some 13, some 14, some 15, some 16, some 17, some 18, some 19, some 20, some 21, some 22, some 23, some 24, some 25] 16 (by kernel_rfl) (by kernel_rfl) (by kernel_rfl) rfl (by kernel_rfl) ?_ ?_ ?_
    · exact ⟨fun _ _ _ _ h => h, fun _ _ _ _ h => h, fun _ _ _ _ h => h, fun _ _ _ _ h => h, fun _ _ _ _ h => h, fun _ _ _ _ h => h, fun _ _ _ _ h => h, fun _ _ _ _ h => h, fun _ _ _ _ h => h, fun _ _ _ _ h => h, fun _ _ _ _ h => h, fun _ _ _ _ h => h, fun _ _ _ _ h => h, fun _ _ _ _ h => h, fun _ _ _ _ h => h, fun _ _ _ _ h => h, trivial⟩
    · refine ⟨fun ρ wx _ hx _ => gives_move (hx (.tmp 0) (by simp)), ?_, ?_, ?_, ?_, fun ρ wx _ _ hd => gives_move hd.1, fun ρ wx _ _ hd => .inr ⟨off_f hd.1, rfl⟩, fun ρ wx _ _ hd => .inr ⟨off_f hd.1, rfl⟩, fun ρ wx _ _ hd => .inr ⟨off_f hd.1, rfl⟩, fun ρ wx _ _ hd => .inr ⟨off_f hd.1, rfl⟩, fun ρ wx _ _ hd => .inr ⟨off_f hd.1, rfl⟩, fun ρ wx _ _ hd => .inr ⟨off_f hd.1, rfl⟩, fun ρ wx _ _ hd => .inr ⟨off_f hd.1, rfl⟩, fun ρ wx _ _ hd => .inr ⟨off_f hd.1, rfl⟩, fun ρ wx _ _ hd => .inr ⟨off_f hd.1, rfl⟩, ?_, trivial⟩
      · intro ρ wx hE hx hd
        replace hE := Ext.undrew hE
        have e10 : ρ (.tmp 10) = .pointer (some ⟨b, 0, none⟩) := hd.1
        exact gives_val (G := fun vv _ => vv = .pointer (some ⟨b, 0, none⟩)) (v := .pointer (some ⟨b, 0, none⟩)) (by simp [execOp, e10, go_sem]) rfl
      · intro ρ wx hE hx hd
        replace hE := Ext.undrew hE
        have e11 : ρ (.tmp 11) = .pointer (some ⟨b, 0, none⟩) := hd.1
        exact gives_val (G := fun vv _ => vv = .pointer (some ⟨b, 3, none⟩)) (v := .pointer (some ⟨b, 3, none⟩)) (by simp [execOp, e11, go_sem]) rfl
      · intro ρ wx hE hx hd
        replace hE := Ext.undrew hE
        have e12 : ρ (.tmp 12) = .pointer (some ⟨b, 3, none⟩) := hd.1
        have hcl := ext_cell hE HC3.out
        exact gives_val (G := fun vv _ => vv = .int .i64 last) (v := .int .i64 last) (by simp [execOp, e12, hcl, go_sem]) rfl
      · intro ρ wx hE hx hd
        replace hE := Ext.undrew hE
        have e13 : ρ (.tmp 13) = .int .i64 last := hd.1
        have hk : ∀ v, ρ (.const v) = v := fun v => (hx (.const v) (by simp)).trans rfl
        exact gives_val (G := fun vv _ => vv = .bool false) (v := .bool false) (by simp [execOp, e13, hk, go_sem]; omega) rfl
      · intro ρ wx hE hx hd
        replace hE := Ext.undrew hE
        have e15 : ρ (.tmp 15) = .bool false := hd.1
        have e24 : ρ (.tmp 24) = undef := hd.2.1
        have hk : ∀ v, ρ (.const v) = v := fun v => (hx (.const v) (by simp)).trans rfl
        exact gives_val (G := fun vv _ => vv = .bool false) (v := .bool false) (by simp [execOp, e15, e24, hk, go_sem]) rfl
    intro wx hE
    refine fun v10 (e10 : v10 = .pointer (some ⟨b, 0, none⟩)) => ?_
    refine fun v11 (e11 : v11 = .pointer (some ⟨b, 0, none⟩)) => ?_
    refine fun v12 (e12 : v12 = .pointer (some ⟨b, 3, none⟩)) => ?_
    refine fun v13 (e13 : v13 = .int .i64 last) => ?_
    refine fun v14 (e14 : v14 = .bool false) => ?_
    refine fun v15 (e15 : v15 = .bool false) => ?_
    refine fun v16 (e16 : v16 = undef) => ?_
    refine fun v17 (e17 : v17 = undef) => ?_
    refine fun v18 (e18 : v18 = undef) => ?_
    refine fun v19 (e19 : v19 = undef) => ?_
    refine fun v20 (e20 : v20 = undef) => ?_
    refine fun v21 (e21 : v21 = undef) => ?_
    refine fun v22 (e22 : v22 = undef) => ?_
    refine fun v23 (e23 : v23 = undef) => ?_
    refine fun v24 (e24 : v24 = undef) => ?_
    refine fun v25 (e25 : v25 = .bool false) => ?_
    subst e10 e11 e12 e13 e14 e15 e16 e17 e18 e19 e20 e21 e22 e23 e24 e25
    refine rest_nil ?_
    simp only [List.drop_succ_cons, List.drop_zero, Act.put, List.setIfInBounds_toArray, List.set_cons_zero, List.set_cons_succ]
    go_wp2_with fail
    go_ret
    refine hR _ _ ⟨by rw [ho]; rfl, HR1.out.below hE, HK1.out.trans (Keep.old hE) fun _ _ h => h⟩
  by_cases hN : (dk.ops : Int) + 1 > last
  · have ho := (HV.out.2 (by omega)).1 hN
    refine wp_region_any (by kernel_rfl) ?_
    refine region_ext [(fun vv _ => vv = .pointer (some ⟨b, 0, none⟩)), (fun vv _ => vv = .pointer (some ⟨b, 0, none⟩)), (fun vv _ => vv = .pointer (some ⟨b, 3, none⟩)), (fun vv _ => vv = .int .i64 last), (fun vv _ => vv = .bool true), (fun vv _ => vv = .bool true), (fun vv _ => vv = .pointer (some ⟨b, 0, none⟩)), (fun vv _ => vv = .pointer (some ⟨b, 0, none⟩)), (fun vv _ => vv = .pointer (some ⟨b, 2, none⟩)), (fun vv _ => vv = .int .i64 ((dk.ops : Int) + 1)), (fun vv _ => vv = .pointer (some ⟨b, 0, none⟩)), (fun vv _ => vv = .pointer (some ⟨b, 0, none⟩)), (fun vv _ => vv = .pointer (some ⟨b, 3, none⟩)), (fun vv _ => vv = .int .i64 last), (fun vv _ => vv = .bool true), (fun vv _ => vv = .bool true)]
      [[], [(0, 10)], [(1, 11)], [(2, 12)], [(3, 13)], [(4, 14)], [(5, 15)], [(5, 15), (6, 16)], [(5, 15), (7, 17)], [(5, 15), (8, 18)], [(5, 15)], [(5, 15), (10, 20)], [(5, 15), (11, 21)], [(5, 15), (12, 22)], [(5, 15), (9, 19), (13, 23)], [(5, 15), (14, 24)], []]
      [none, none, none, none, none, none, some (15, true), some (15, true), some (15, true), some (15, true), some (15, true), some (15, true), some (15, true), some (15, true), some (15, true), none, none]
      [some 10, some 11, some 12, some 13, some 14, some 15, some 16, some 17, some 18, some 19, some 20, some 21, some 22, some 23, some 24, some 25] 16 (by kernel_rfl) (by kernel_rfl) (by kernel_rfl) rfl (by kernel_rfl) ?_ ?_ ?_
    · exact ⟨fun _ _ _ _ h => h, fun _ _ _ _ h => h, fun _ _ _ _ h => h, fun _ _ _ _ h => h, fun _ _ _ _ h => h, fun _ _ _ _ h => h, fun _ _ _ _ h => h, fun _ _ _ _ h => h, fun _ _ _ _ h => h, fun _ _ _ _ h => h, fun _ _ _ _ h => h, fun _ _ _ _ h => h, fun _ _ _ _ h => h, fun _ _ _ _ h => h, fun _ _ _ _ h => h, fun _ _ _ _ h => h, trivial⟩
    · refine ⟨fun ρ wx _ hx _ => gives_move (hx (.tmp 0) (by simp)), ?_, ?_, ?_, ?_, fun ρ wx _ _ hd => gives_move hd.1, ?_, ?_, ?_, ?_, ?_, ?_, ?_, ?_, ?_, ?_, trivial⟩
      · intro ρ wx hE hx hd
        replace hE := Ext.undrew hE
        have e10 : ρ (.tmp 10) = .pointer (some ⟨b, 0, none⟩) := hd.1
        exact gives_val (G := fun vv _ => vv = .pointer (some ⟨b, 0, none⟩)) (v := .pointer (some ⟨b, 0, none⟩)) (by simp [execOp, e10, go_sem]) rfl
      · intro ρ wx hE hx hd
        replace hE := Ext.undrew hE
        have e11 : ρ (.tmp 11) = .pointer (some ⟨b, 0, none⟩) := hd.1
        exact gives_val (G := fun vv _ => vv = .pointer (some ⟨b, 3, none⟩)) (v := .pointer (some ⟨b, 3, none⟩)) (by simp [execOp, e11, go_sem]) rfl
      · intro ρ wx hE hx hd
        replace hE := Ext.undrew hE
        have e12 : ρ (.tmp 12) = .pointer (some ⟨b, 3, none⟩) := hd.1
        have hcl := ext_cell hE HC3.out
        exact gives_val (G := fun vv _ => vv = .int .i64 last) (v := .int .i64 last) (by simp [execOp, e12, hcl, go_sem]) rfl
      · intro ρ wx hE hx hd
        replace hE := Ext.undrew hE
        have e13 : ρ (.tmp 13) = .int .i64 last := hd.1
        have hk : ∀ v, ρ (.const v) = v := fun v => (hx (.const v) (by simp)).trans rfl
        exact gives_val (G := fun vv _ => vv = .bool true) (v := .bool true) (by simp [execOp, e13, hk, go_sem]; omega) rfl
      · intro ρ wx hE hx hd
        replace hE := Ext.undrew hE
        have e15 : ρ (.tmp 15) = .bool true := hd.1
        have e0 : ρ (.tmp 0) = .pointer (some ⟨b, 0, none⟩) := hx (.tmp 0) (by simp)
        refine .inl ⟨e15, ?_⟩
        exact gives_val (G := fun vv _ => vv = .pointer (some ⟨b, 0, none⟩)) (v := .pointer (some ⟨b, 0, none⟩)) (by simp [execOp, e15, e0, go_sem]) rfl
      · intro ρ wx hE hx hd
        replace hE := Ext.undrew hE
        have e15 : ρ (.tmp 15) = .bool true := hd.1
        have e16 : ρ (.tmp 16) = .pointer (some ⟨b, 0, none⟩) := hd.2.1
        refine .inl ⟨e15, ?_⟩
        exact gives_val (G := fun vv _ => vv = .pointer (some ⟨b, 0, none⟩)) (v := .pointer (some ⟨b, 0, none⟩)) (by simp [execOp, e15, e16, go_sem]) rfl
      · intro ρ wx hE hx hd
        replace hE := Ext.undrew hE
        have e15 : ρ (.tmp 15) = .bool true := hd.1
        have e17 : ρ (.tmp 17) = .pointer (some ⟨b, 0, none⟩) := hd.2.1
        refine .inl ⟨e15, ?_⟩
        exact gives_val (G := fun vv _ => vv = .pointer (some ⟨b, 2, none⟩)) (v := .pointer (some ⟨b, 2, none⟩)) (by simp [execOp, e15, e17, go_sem]) rfl
      · intro ρ wx hE hx hd
        replace hE := Ext.undrew hE
        have e15 : ρ (.tmp 15) = .bool true := hd.1
        have e18 : ρ (.tmp 18) = .pointer (some ⟨b, 2, none⟩) := hd.2.1
        refine .inl ⟨e15, ?_⟩
        have hcl := ext_cell hE HC2.out
        exact gives_val (G := fun vv _ => vv = .int .i64 ((dk.ops : Int) + 1)) (v := .int .i64 ((dk.ops : Int) + 1)) (by simp [execOp, e15, e18, hcl, go_sem]) rfl
      · intro ρ wx hE hx hd
        replace hE := Ext.undrew hE
        have e15 : ρ (.tmp 15) = .bool true := hd.1
        have e0 : ρ (.tmp 0) = .pointer (some ⟨b, 0, none⟩) := hx (.tmp 0) (by simp)
        refine .inl ⟨e15, ?_⟩
        exact gives_val (G := fun vv _ => vv = .pointer (some ⟨b, 0, none⟩)) (v := .pointer (some ⟨b, 0, none⟩)) (by simp [execOp, e15, e0, go_sem]) rfl
      · intro ρ wx hE hx hd
        replace hE := Ext.undrew hE
        have e15 : ρ (.tmp 15) = .bool true := hd.1
        have e20 : ρ (.tmp 20) = .pointer (some ⟨b, 0, none⟩) := hd.2.1
        refine .inl ⟨e15, ?_⟩
        exact gives_val (G := fun vv _ => vv = .pointer (some ⟨b, 0, none⟩)) (v := .pointer (some ⟨b, 0, none⟩)) (by simp [execOp, e15, e20, go_sem]) rfl
      · intro ρ wx hE hx hd
        replace hE := Ext.undrew hE
        have e15 : ρ (.tmp 15) = .bool true := hd.1
        have e21 : ρ (.tmp 21) = .pointer (some ⟨b, 0, none⟩) := hd.2.1
        refine .inl ⟨e15, ?_⟩
        exact gives_val (G := fun vv _ => vv = .pointer (some ⟨b, 3, none⟩)) (v := .pointer (some ⟨b, 3, none⟩)) (by simp [execOp, e15, e21, go_sem]) rfl
      · intro ρ wx hE hx hd
        replace hE := Ext.undrew hE
        have e15 : ρ (.tmp 15) = .bool true := hd.1
        have e22 : ρ (.tmp 22) = .pointer (some ⟨b, 3, none⟩) := hd.2.1
        refine .inl ⟨e15, ?_⟩
        have hcl := ext_cell hE HC3.out
        exact gives_val (G := fun vv _ => vv = .int .i64 last) (v := .int .i64 last) (by simp [execOp, e15, e22, hcl, go_sem]) rfl
      · intro ρ wx hE hx hd
        replace hE := Ext.undrew hE
        have e15 : ρ (.tmp 15) = .bool true := hd.1
        have e19 : ρ (.tmp 19) = .int .i64 ((dk.ops : Int) + 1) := hd.2.1
        have e23 : ρ (.tmp 23) = .int .i64 last := hd.2.2.1
        refine .inl ⟨e15, ?_⟩
        exact gives_val (G := fun vv _ => vv = .bool true) (v := .bool true) (by simp [execOp, e19, e23, go_sem]; omega) rfl
      · intro ρ wx hE hx hd
        replace hE := Ext.undrew hE
        have e15 : ρ (.tmp 15) = .bool true := hd.1
        have e24 : ρ (.tmp 24) = .bool true := hd.2.1
        have hk : ∀ v, ρ (.const v) = v := fun v => (hx (.const v) (by simp)).trans rfl
        exact gives_val (G := fun vv _ => vv = .bool true) (v := .bool true) (by simp [execOp, e15, e24, hk, go_sem]) rfl
    intro wx hE
    refine fun v10 (e10 : v10 = .pointer (some ⟨b, 0, none⟩)) => ?_
    refine fun v11 (e11 : v11 = .pointer (some ⟨b, 0, none⟩)) => ?_
    refine fun v12 (e12 : v12 = .pointer (some ⟨b, 3, none⟩)) => ?_
    refine fun v13 (e13 : v13 = .int .i64 last) => ?_
    refine fun v14 (e14 : v14 = .bool true) => ?_
    refine fun v15 (e15 : v15 = .bool true) => ?_
    refine fun v16 (e16 : v16 = .pointer (some ⟨b, 0, none⟩)) => ?_
    refine fun v17 (e17 : v17 = .pointer (some ⟨b, 0, none⟩)) => ?_
    refine fun v18 (e18 : v18 = .pointer (some ⟨b, 2, none⟩)) => ?_
    refine fun v19 (e19 : v19 = .int .i64 ((dk.ops : Int) + 1)) => ?_
    refine fun v20 (e20 : v20 = .pointer (some ⟨b, 0, none⟩)) => ?_
    refine fun v21 (e21 : v21 = .pointer (some ⟨b, 0, none⟩)) => ?_
    refine fun v22 (e22 : v22 = .pointer (some ⟨b, 3, none⟩)) => ?_
    refine fun v23 (e23 : v23 = .int .i64 last) => ?_
    refine fun v24 (e24 : v24 = .bool true) => ?_
    refine fun v25 (e25 : v25 = .bool true) => ?_
    subst e10 e11 e12 e13 e14 e15 e16 e17 e18 e19 e20 e21 e22 e23 e24 e25
    refine rest_nil ?_
    simp only [List.drop_succ_cons, List.drop_zero, Act.put, List.setIfInBounds_toArray, List.set_cons_zero, List.set_cons_succ]
    go_wp2_with fail
    go_ret
    refine hR _ _ ⟨by rw [ho]; rfl, HR1.out.below hE, HK1.out.trans (Keep.old hE) fun _ _ h => h⟩
  · have ho : dk.off = false := by
      cases h : dk.off with
      | false => rfl
      | true => exact (hN ((HV.out.2 (by omega)).2 h)).elim
    refine wp_region_any (by kernel_rfl) ?_
    refine region_ext [(fun vv _ => vv = .pointer (some ⟨b, 0, none⟩)), (fun vv _ => vv = .pointer (some ⟨b, 0, none⟩)), (fun vv _ => vv = .pointer (some ⟨b, 3, none⟩)), (fun vv _ => vv = .int .i64 last), (fun vv _ => vv = .bool true), (fun vv _ => vv = .bool true), (fun vv _ => vv = .pointer (some ⟨b, 0, none⟩)), (fun vv _ => vv = .pointer (some ⟨b, 0, none⟩)), (fun vv _ => vv = .pointer (some ⟨b, 2, none⟩)), (fun vv _ => vv = .int .i64 ((dk.ops : Int) + 1)), (fun vv _ => vv = .pointer (some ⟨b, 0, none⟩)), (fun vv _ => vv = .pointer (some ⟨b, 0, none⟩)), (fun vv _ => vv = .pointer (some ⟨b, 3, none⟩)), (fun vv _ => vv = .int .i64 last), (fun vv _ => vv = .bool false), (fun vv _ => vv = .bool false)]
      [[], [(0, 10)], [(1, 11)], [(2, 12)], [(3, 13)], [(4, 14)], [(5, 15)], [(5, 15), (6, 16)], [(5, 15), (7, 17)], [(5, 15), (8, 18)], [(5, 15)], [(5, 15), (10, 20)], [(5, 15), (11, 21)], [(5, 15), (12, 22)], [(5, 15), (9, 19), (13, 23)], [(5, 15), (14, 24)], []]
      [none, none, none, none, none, none, some (15, true), some (15, true), some (15, true), some (15, true), some (15, true), some (15, true), some (15, true), some (15, true), some (15, true), none, none]
      [some 10, some 11, some 12, some 13, some 14, some 15, some 16, some 17, some 18, some 19, some 20, some 21, some 22, some 23, some 24, some 25] 16 (by kernel_rfl) (by kernel_rfl) (by kernel_rfl) rfl (by kernel_rfl) ?_ ?_ ?_
    · exact ⟨fun _ _ _ _ h => h, fun _ _ _ _ h => h, fun _ _ _ _ h => h, fun _ _ _ _ h => h, fun _ _ _ _ h => h, fun _ _ _ _ h => h, fun _ _ _ _ h => h, fun _ _ _ _ h => h, fun _ _ _ _ h => h, fun _ _ _ _ h => h, fun _ _ _ _ h => h, fun _ _ _ _ h => h, fun _ _ _ _ h => h, fun _ _ _ _ h => h, fun _ _ _ _ h => h, fun _ _ _ _ h => h, trivial⟩
    · refine ⟨fun ρ wx _ hx _ => gives_move (hx (.tmp 0) (by simp)), ?_, ?_, ?_, ?_, fun ρ wx _ _ hd => gives_move hd.1, ?_, ?_, ?_, ?_, ?_, ?_, ?_, ?_, ?_, ?_, trivial⟩
      · intro ρ wx hE hx hd
        replace hE := Ext.undrew hE
        have e10 : ρ (.tmp 10) = .pointer (some ⟨b, 0, none⟩) := hd.1
        exact gives_val (G := fun vv _ => vv = .pointer (some ⟨b, 0, none⟩)) (v := .pointer (some ⟨b, 0, none⟩)) (by simp [execOp, e10, go_sem]) rfl
      · intro ρ wx hE hx hd
        replace hE := Ext.undrew hE
        have e11 : ρ (.tmp 11) = .pointer (some ⟨b, 0, none⟩) := hd.1
        exact gives_val (G := fun vv _ => vv = .pointer (some ⟨b, 3, none⟩)) (v := .pointer (some ⟨b, 3, none⟩)) (by simp [execOp, e11, go_sem]) rfl
      · intro ρ wx hE hx hd
        replace hE := Ext.undrew hE
        have e12 : ρ (.tmp 12) = .pointer (some ⟨b, 3, none⟩) := hd.1
        have hcl := ext_cell hE HC3.out
        exact gives_val (G := fun vv _ => vv = .int .i64 last) (v := .int .i64 last) (by simp [execOp, e12, hcl, go_sem]) rfl
      · intro ρ wx hE hx hd
        replace hE := Ext.undrew hE
        have e13 : ρ (.tmp 13) = .int .i64 last := hd.1
        have hk : ∀ v, ρ (.const v) = v := fun v => (hx (.const v) (by simp)).trans rfl
        exact gives_val (G := fun vv _ => vv = .bool true) (v := .bool true) (by simp [execOp, e13, hk, go_sem]; omega) rfl
      · intro ρ wx hE hx hd
        replace hE := Ext.undrew hE
        have e15 : ρ (.tmp 15) = .bool true := hd.1
        have e0 : ρ (.tmp 0) = .pointer (some ⟨b, 0, none⟩) := hx (.tmp 0) (by simp)
        refine .inl ⟨e15, ?_⟩
        exact gives_val (G := fun vv _ => vv = .pointer (some ⟨b, 0, none⟩)) (v := .pointer (some ⟨b, 0, none⟩)) (by simp [execOp, e15, e0, go_sem]) rfl
      · intro ρ wx hE hx hd
        replace hE := Ext.undrew hE
        have e15 : ρ (.tmp 15) = .bool true := hd.1
        have e16 : ρ (.tmp 16) = .pointer (some ⟨b, 0, none⟩) := hd.2.1
        refine .inl ⟨e15, ?_⟩
        exact gives_val (G := fun vv _ => vv = .pointer (some ⟨b, 0, none⟩)) (v := .pointer (some ⟨b, 0, none⟩)) (by simp [execOp, e15, e16, go_sem]) rfl
      · intro ρ wx hE hx hd
        replace hE := Ext.undrew hE
        have e15 : ρ (.tmp 15) = .bool true := hd.1
        have e17 : ρ (.tmp 17) = .pointer (some ⟨b, 0, none⟩) := hd.2.1
        refine .inl ⟨e15, ?_⟩
        exact gives_val (G := fun vv _ => vv = .pointer (some ⟨b, 2, none⟩)) (v := .pointer (some ⟨b, 2, none⟩)) (by simp [execOp, e15, e17, go_sem]) rfl
      · intro ρ wx hE hx hd
        replace hE := Ext.undrew hE
        have e15 : ρ (.tmp 15) = .bool true := hd.1
        have e18 : ρ (.tmp 18) = .pointer (some ⟨b, 2, none⟩) := hd.2.1
        refine .inl ⟨e15, ?_⟩
        have hcl := ext_cell hE HC2.out
        exact gives_val (G := fun vv _ => vv = .int .i64 ((dk.ops : Int) + 1)) (v := .int .i64 ((dk.ops : Int) + 1)) (by simp [execOp, e15, e18, hcl, go_sem]) rfl
      · intro ρ wx hE hx hd
        replace hE := Ext.undrew hE
        have e15 : ρ (.tmp 15) = .bool true := hd.1
        have e0 : ρ (.tmp 0) = .pointer (some ⟨b, 0, none⟩) := hx (.tmp 0) (by simp)
        refine .inl ⟨e15, ?_⟩
        exact gives_val (G := fun vv _ => vv = .pointer (some ⟨b, 0, none⟩)) (v := .pointer (some ⟨b, 0, none⟩)) (by simp [execOp, e15, e0, go_sem]) rfl
      · intro ρ wx hE hx hd
        replace hE := Ext.undrew hE
        have e15 : ρ (.tmp 15) = .bool true := hd.1
        have e20 : ρ (.tmp 20) = .pointer (some ⟨b, 0, none⟩) := hd.2.1
        refine .inl ⟨e15, ?_⟩
        exact gives_val (G := fun vv _ => vv = .pointer (some ⟨b, 0, none⟩)) (v := .pointer (some ⟨b, 0, none⟩)) (by simp [execOp, e15, e20, go_sem]) rfl
      · intro ρ wx hE hx hd
        replace hE := Ext.undrew hE
        have e15 : ρ (.tmp 15) = .bool true := hd.1
        have e21 : ρ (.tmp 21) = .pointer (some ⟨b, 0, none⟩) := hd.2.1
        refine .inl ⟨e15, ?_⟩
        exact gives_val (G := fun vv _ => vv = .pointer (some ⟨b, 3, none⟩)) (v := .pointer (some ⟨b, 3, none⟩)) (by simp [execOp, e15, e21, go_sem]) rfl
      · intro ρ wx hE hx hd
        replace hE := Ext.undrew hE
        have e15 : ρ (.tmp 15) = .bool true := hd.1
        have e22 : ρ (.tmp 22) = .pointer (some ⟨b, 3, none⟩) := hd.2.1
        refine .inl ⟨e15, ?_⟩
        have hcl := ext_cell hE HC3.out
        exact gives_val (G := fun vv _ => vv = .int .i64 last) (v := .int .i64 last) (by simp [execOp, e15, e22, hcl, go_sem]) rfl
      · intro ρ wx hE hx hd
        replace hE := Ext.undrew hE
        have e15 : ρ (.tmp 15) = .bool true := hd.1
        have e19 : ρ (.tmp 19) = .int .i64 ((dk.ops : Int) + 1) := hd.2.1
        have e23 : ρ (.tmp 23) = .int .i64 last := hd.2.2.1
        refine .inl ⟨e15, ?_⟩
        exact gives_val (G := fun vv _ => vv = .bool false) (v := .bool false) (by simp [execOp, e19, e23, go_sem]; omega) rfl
      · intro ρ wx hE hx hd
        replace hE := Ext.undrew hE
        have e15 : ρ (.tmp 15) = .bool true := hd.1
        have e24 : ρ (.tmp 24) = .bool false := hd.2.1
        have hk : ∀ v, ρ (.const v) = v := fun v => (hx (.const v) (by simp)).trans rfl
        exact gives_val (G := fun vv _ => vv = .bool false) (v := .bool false) (by simp [execOp, e15, e24, hk, go_sem]) rfl
    intro wx hE
    refine fun v10 (e10 : v10 = .pointer (some ⟨b, 0, none⟩)) => ?_
    refine fun v11 (e11 : v11 = .pointer (some ⟨b, 0, none⟩)) => ?_
    refine fun v12 (e12 : v12 = .pointer (some ⟨b, 3, none⟩)) => ?_
    refine fun v13 (e13 : v13 = .int .i64 last) => ?_
    refine fun v14 (e14 : v14 = .bool true) => ?_
    refine fun v15 (e15 : v15 = .bool true) => ?_
    refine fun v16 (e16 : v16 = .pointer (some ⟨b, 0, none⟩)) => ?_
    refine fun v17 (e17 : v17 = .pointer (some ⟨b, 0, none⟩)) => ?_
    refine fun v18 (e18 : v18 = .pointer (some ⟨b, 2, none⟩)) => ?_
    refine fun v19 (e19 : v19 = .int .i64 ((dk.ops : Int) + 1)) => ?_
    refine fun v20 (e20 : v20 = .pointer (some ⟨b, 0, none⟩)) => ?_
    refine fun v21 (e21 : v21 = .pointer (some ⟨b, 0, none⟩)) => ?_
    refine fun v22 (e22 : v22 = .pointer (some ⟨b, 3, none⟩)) => ?_
    refine fun v23 (e23 : v23 = .int .i64 last) => ?_
    refine fun v24 (e24 : v24 = .bool false) => ?_
    refine fun v25 (e25 : v25 = .bool false) => ?_
    subst e10 e11 e12 e13 e14 e15 e16 e17 e18 e19 e20 e21 e22 e23 e24 e25
    refine rest_nil ?_
    simp only [List.drop_succ_cons, List.drop_zero, Act.put, List.setIfInBounds_toArray, List.set_cons_zero, List.set_cons_succ]
    go_wp2_with fail
    go_ret
    refine hR _ _ ⟨by rw [ho]; rfl, HR1.out.below hE, HK1.out.trans (Keep.old hE) fun _ _ h => h⟩

theorem rcut_any (h : RIn w F b dk lv last) (n : Int) (hn : n ≤ 9223372036854775807) (ho : dk.ops ≤ 1000000) :
    Calls Try.prog 46 #[.pointer (some ⟨b, 0, none⟩), .int .i64 n] w fun e w' => e = .returned (.tuple #[]) ∧ RAt w' F b (dk.cut n) ∧ Keep (fun k => k = b) w w' := by
  refine calls_gen fun R hR => ?_
  have H := Lib.hid h
  have c2 := blk_cell h.blk 2
  have c3 := blk_cell h.blk 3
  have f3 := blk_free h.blk 3
  simp only [rcell, List.getElem?_toArray, List.getElem?_cons_zero, List.getElem?_cons_succ] at c2 c3
  have hlt := h.lt
  clear h
  go_enter Try.func46, Try.ntmps46
  go_wp2_with (with_reducible (first | refine stop_max ?_ | refine stop_min ?_))
  refine ⟨wp_max rfl rfl ?_⟩
  go_wp2_with (with_reducible (first | refine stop_max ?_ | refine stop_min ?_))
  refine ⟨wp_min rfl rfl ?_⟩
  obtain ⟨q, hq⟩ : ∃ q, min (max n 0) 1152921504606846976 = q := ⟨_, rfl⟩
  have hq0 : 0 ≤ q := by omega
  have hq1 : q ≤ 1152921504606846976 := by omega
  have hq2 : (n.toNat : Int) = q ∨ (1152921504606846976 ≤ (n.toNat : Int) ∧ q = 1152921504606846976) := by omega
  rw [hq]
  have HQ2 := Lib.hid hq2
  clear hq hq2
  go_wp2_with fail
  have k2 := (Keep.refl (fun k => k = b) w).set (p := ⟨b, 3, none⟩) rfl (.int .i64 ((dk.ops : Int) + q))
  refine bodyPost_end (v := .tuple #[]) (by simp [results, Try.results46]) rfl (hR _ _ ⟨rfl, ⟨lv, (dk.ops : Int) + q, blk_set H.out.blk 3 _, H.out.row.keep k2 (fun k hF e => H.out.out (e ▸ hF)), H.out.out, ?_⟩, k2⟩)
  show 0 ≤ (dk.ops : Int) + q ∧ (dk.ops : Int) + q ≤ 2305843009213693952 ∧ ((n.toNat : Int) = max ((dk.ops : Int) + q - dk.ops) 0 ∨ (1152921504606846976 ≤ (n.toNat : Int) + dk.ops ∧ 1152921504606846976 ≤ (dk.ops : Int) + q))
  have := HQ2.out
  omega
theorem bad_any (s : ByteArray) (w : World) (hs : s.size ≤ 140737488351232) :
    Calls Try.prog 57 #[.string s] w fun e w' => e = .returned (.bool (badName (toL s))) ∧ w' = w := by
  refine calls_gen fun R hR => ?_
  have hb : badName (toL s) = (s.toList.isEmpty || decide ((s.size : Int) > 100)) := by
    unfold badName; rw [toL_len, toList_toL]
    congr 1
    rw [decide_eq_decide]; omega
  rw [hb] at hR
  clear hb
  go_enter Try.func57, Try.ntmps57
  cases he : s.toList.isEmpty
  · by_cases h : (s.size : Int) ≤ 100
    · go_wp2_with fail
      go_ret
      exact hR _ _ ⟨by rw [he, decide_eq_false (by omega)]; rfl, rfl⟩
    · go_wp2_with fail
      go_ret
      exact hR _ _ ⟨by rw [he, decide_eq_true (by omega)]; rfl, rfl⟩
  · go_wp2_with fail
    go_ret
    exact hR _ _ ⟨by rw [he]; rfl, rfl⟩
end
end Go.Proofs.Ytlfcbhagbdonhaa.Asc
