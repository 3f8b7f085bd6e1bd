/-
  Contract: a file is put into the document's disk.
  Lengths within the rows' own reach.
-/
import Derived.Test.YtlfcbhagbdonhaaDrH
import Derived.RegionTactic
import Derived.Deep.RegionLaw
namespace Go.Proofs.Ytlfcbhagbdonhaa.Asc
set_option linter.unusedSimpArgs false
set_option linter.unusedVariables false
open Go Go.RowKit Go.Proofs.Ytlfcbhagbdonhaa.Pb

section
variable {P : Program} {ops : Array Oper} {a : Act} {w : World} {K : Act → World → Prop} {Q : Exit → Act → World → Prop} {E : Prop}
/-- one is appended, in any world in which it lies in a block -/
theorem step_append1_gen {α : Type} {r : Rp α} {F : Nat → Prop} {xs : List α} {v : Value} {s x : Operand} {t e : TypeId} {z : Value} {bytes : Nat} {y : α} {d : Option Tmp} {ty : TypeId} {pos : String} {af : Array Edge}
    (ht : P.underlying t = some (.slice e)) (hinfo : (P.info? e).map (fun i => (i.zero, i.size, i.bytes)) = some (some z, r.sz, bytes)) (hzs : z.cells.size = r.sz) (hsz : 0 < r.sz)
    (hown : Own r e w F xs v) (hs : a.eval s = v) {k0 : Nat} {cs : Array Value} {tt : TypeId} {fz : Nat × Nat} (hx : a.eval x = .slice (some ⟨k0, 0, none⟩) 1 1) (hblk : w.heap[k0]? = some (.cells cs tt fz)) {G : Nat → Prop} (hy : r.rep w G y cs.toList) (hG : ∀ k, G k → some k ≠ v.ownBlock)
    (h63 : xs.length < 1099511627776) (hb : bytes ≤ 100)
    (h : ∀ v' w', Own r e w' (fun k => F k ∨ G k ∨ w.heap.size ≤ k) (xs ++ [y]) v' → Keep (fun k => some k = v.ownBlock) w w' → (v'.ownBlock = v.ownBlock ∨ ∃ k, v'.ownBlock = some k ∧ w.heap.size ≤ k) → K (a.put d v') w') :
    if Region.wanted ⟨d, .call ⟨.builtin .append, #[s, x], #[t, t]⟩, ty, pos, af, none⟩ (yielded ops a.tmps) = true then Oper.wp P ⟨d, .call ⟨.builtin .append, #[s, x], #[t, t]⟩, ty, pos, af, none⟩ a w K Q else E := by
  refine step_wanted rfl ?_
  have hat : At w k0 0 cs.toList := fun j u hu => by
    rw [blk_cell hblk]; simpa using hu
  have hmul : (xs.length + [y].length) * bytes ≤ 140737488355328 := by
    have : (xs.length + 1) * bytes ≤ 1099511627776 * 100 := Nat.mul_le_mul (by omega) hb
    simp only [List.length_cons, List.length_nil, Nat.zero_add]; omega
  obtain ⟨v', w', hr, ho, hk, hn, hb'⟩ := run_append_rows (ty := ty) (c := 1) ht hinfo hzs hsz hown hat (Elems.one hy) (fun k hk => hG k hk) (by simp only [List.length_cons, List.length_nil]; unfold maxLen; omega) hmul
  unfold Oper.wp
  rw [exec_append (v := v') (w' := w') (by simpa [hs, hx] using hr)]
  exact h v' w' ho hk hb'
end
section
variable {w w' : World} {F : Nat → Prop} {b : Nat} {dk : Dk} {lv : Value} {last : Int}
theorem rset_e {g n c : Nat} (h : RIn w F b dk (.slice (some ⟨g, 0, none⟩) n c) last) (hF : F g) (k : Nat) (hk : k < dk.fs.length) (x : Fl) (S : ByteArray) (hS : toL S = x.name) (v : Value) (hv : View Rp.u8 w (fun i => F i ∧ i ≠ g) x.b v) :
    RIn (((w.setCell ⟨g, k * 3, none⟩ (.string S)).setCell ⟨g, k * 3 + 1, none⟩ v).setCell ⟨g, k * 3 + 2, none⟩ (.int .i64 x.sy)) F b { dk with fs := dk.fs.set k x } (.slice (some ⟨g, 0, none⟩) n c) last ∧ Keep (fun j => j = g) w (((w.setCell ⟨g, k * 3, none⟩ (.string S)).setCell ⟨g, k * 3 + 1, none⟩ v).setCell ⟨g, k * 3 + 2, none⟩ (.int .i64 x.sy)) := by
  have hs := own_set3 h.row k hk S x.b v x.sy hv
  rw [hS] at hs
  have hk3 : Keep (fun j => j = g) w (((w.setCell ⟨g, k * 3, none⟩ (.string S)).setCell ⟨g, k * 3 + 1, none⟩ v).setCell ⟨g, k * 3 + 2, none⟩ (.int .i64 x.sy)) := (((Keep.refl (fun j => j = g) w).set (p := ⟨g, k * 3, none⟩) rfl _).set (p := ⟨g, k * 3 + 1, none⟩) rfl _).set (p := ⟨g, k * 3 + 2, none⟩) rfl _
  exact ⟨h.row1 (hk3.mono fun _ _ e => e ▸ hF) hs rfl, hk3⟩
set_option maxHeartbeats 4000000 in
set_option maxRecDepth 20000 in
theorem rput_any (h : RIn w F b dk lv last) (hO : Ord dk.fs) (hlen : dk.fs.length ≤ 1000) (f : Fl) (hn : look dk.fs f.name = none) (S : ByteArray) (hS : toL S = f.name) (UA : Option Addr) (un uc : Nat) (G : Nat → Prop) (hv : View Rp.u8 w G f.b (.slice UA un uc)) (hG : ∀ k, G k → some k ≠ lv.ownBlock) (hGb : ¬ G b) :
    Calls Try.prog 59 #[.pointer (some ⟨b, 0, none⟩), .agg #[.string S, .slice UA un uc, .int .i64 f.sy]] w fun e w' => e = .returned (.tuple #[]) ∧ RAt w' (fun j => F j ∨ G j ∨ w.heap.size ≤ j) b { dk with fs := putF dk.fs f } ∧ Keep (fun j => F j ∨ j = b) w w' := by
  refine calls_gen fun R hR => ?_
  have H := Lib.hid h; have HO := Lib.hid hO; have HV := Lib.hid hv
  have hltb := h.lt
  obtain ⟨A, c, rfl, hc, _⟩ := rf_get h.row.view
  obtain ⟨w1, hw1⟩ : ∃ w1, w.alloc (.cells #[.string S, .slice UA un uc, .int .i64 f.sy] 95) = w1 := ⟨_, rfl⟩
  obtain ⟨pb, hpb⟩ : ∃ pb, w.heap.size = pb := ⟨_, rfl⟩
  have hb1 : Below w.heap.size w w1 := hw1 ▸ below_new w _
  have hg1 : w1.heap[pb]? = some (.cells #[.string S, .slice UA un uc, .int .i64 f.sy] 95 (0, 0)) := hw1 ▸ hpb ▸ blk_new w _
  have hs1 : w1.heap.size = pb + 1 := by rw [← hw1, ← hpb]; simp
  have H1 := Lib.hid (h.below hb1)
  have HV1 := Lib.hid (hv.below hb1)
  have HB1 := Lib.hid hb1; have HG1 := Lib.hid hg1; have HW1 := Lib.hid hw1; have HPB := Lib.hid hpb
  have hbp : b < pb := by omega
  have HS1 := Lib.hid hs1
  clear h hv hw1 hO hb1
  go_enter Try.func59, Try.ntmps59
  go_upto_region 1 with fail
  rw [HW1.out]
  have c1 := blk_cell H1.out.blk 1
  have f1 := blk_free H1.out.blk 1
  simp only [rcell, List.getElem?_toArray, List.getElem?_cons_zero, List.getElem?_cons_succ] at c1
  have hltb1 := H1.out.lt
  have p0 := blk_cell hg1 0
  have p1 := blk_cell hg1 1
  have p2 := blk_cell hg1 2
  simp only [List.getElem?_toArray, List.getElem?_cons_zero, List.getElem?_cons_succ] at p0 p1 p2
  have hlp := blk_lt hg1
  clear hg1 hs1 hpb
  go_cut [] (fun wc => ∃ v', (∀ k, v'.ownBlock = some k → F k ∨ w.heap.size ≤ k) ∧ wc.heap[b]? = some (.cells (rcell dk v' last).toArray 80 (0, 0)) ∧ Own rfE 95 wc (fun j => F j ∨ G j ∨ w.heap.size ≤ j) (dk.fs ++ [f]) v' ∧ Keep (fun j => F j ∨ j = b) w wc)
  case first =>
    have hRow := H1.out.row
    have hob : Hid (∀ k, (Value.slice A dk.fs.length c).ownBlock = some k → F k ∧ k < w1.heap.size) := Lib.hid fun k hk => by
      obtain ⟨_, _, h2, _⟩ := hRow.bnd
      exact h2 k hk
    have HRow : Hid (∀ wx, Keep (fun _ => False) w1 wx → Own rfE 95 wx (fun k => F k ∧ k < w1.heap.size) dk.fs (.slice A dk.fs.length c)) := Lib.hid fun wx hk => hRow.bnd.keep hk fun _ _ h => h
    have HY : Hid (∀ wx, Keep (fun _ => False) w1 wx → rfE.rep wx (fun k => G k ∧ k < w1.heap.size) f [.string S, .slice UA un uc, .int .i64 f.sy]) := Lib.hid fun wx hk => ⟨[_], _, rfl, by show [Value.string S] = [Value.string (ofL f.name)]; rw [← hS, ofL_toL], [_], _, rfl, ⟨_, rfl, HV1.out.bnd.keep hk fun _ _ h => h⟩, rfl⟩
    obtain ⟨N, hN⟩ : ∃ N, dk.fs.length = N := ⟨_, rfl⟩
    rw [hN] at c1 hob HRow hlen hG
    have HN := Lib.hid hN
    clear hRow hN
    go_region_law (first
      | (refine step_append1_gen (r := rfE) (F := fun k => F k ∧ k < w1.heap.size) (G := fun k => G k ∧ k < w1.heap.size) (k0 := w1.heap.size) (cs := #[.string S, .slice UA un uc, .int .i64 f.sy]) (y := f) Try.underlying78 infoFl rfl (by decide) (HRow.out _ (by first | exact (Keep.alloc _ w1 _).drew | exact (Keep.refl _ w1).drew.new _ | exact Keep.alloc _ w1 _)) (by first | rfl | simp [Act.eval]) (by first | rfl | simp [Act.eval]) (blk_new w1 _) (HY.out _ (by first | exact (Keep.alloc _ w1 _).drew | exact (Keep.refl _ w1).drew.new _ | exact Keep.alloc _ w1 _)) (fun k h => hG k h.1) (by rw [HN.out]; omega) (by decide) ?_
         intro v6 w6 ho6 hk6 hp6
         obtain ⟨z, hz⟩ : ∃ z, dk.fs ++ [f] = z := ⟨_, rfl⟩
         rw [hz] at ho6
         have HZ := Lib.hid hz
         clear hz
         obtain ⟨A6, c6, rfl, hc6⟩ := ho6.slice
         have HK6 : Hid (Keep (fun k => F k) w1 w6) := Lib.hid (Keep.trans (G := fun k => some k = (Value.slice A N c).ownBlock) (by first | exact (Keep.alloc _ w1 _).drew | exact (Keep.refl _ w1).drew.new _ | exact Keep.alloc _ w1 _) hk6 fun k _ h => (hob.out k h.symm).1)
         have hbk6 := HK6.out.blk H1.out.blk H1.out.out
         have cb6 := blk_cell hbk6 1
         have fb6 := blk_free hbk6 1
         simp only [rcell, List.getElem?_toArray, List.getElem?_cons_zero, List.getElem?_cons_succ] at cb6
         have hlb6 := blk_lt hbk6
         have HO6 := Lib.hid ho6; have HBK6 := Lib.hid hbk6
         have HP6 : Hid (∀ k, (Value.slice A6 z.length c6).ownBlock = some k → F k ∨ w.heap.size ≤ k) := Lib.hid fun k hk => by
           rcases hp6 with h | ⟨k', h, hle⟩
           · rw [h] at hk; exact .inl (hob.out k hk).1
           · rw [h] at hk; cases hk
             have h1 := HS1.out
             have h2 := HPB.out
             simp at hle
             right; omega
         clear ho6 hk6 hbk6 hp6))
    all_goals
      go_wp2_with fail
      go_meet
      have k3 := (Keep.refl (fun k => k = b) w6).set (p := ⟨b, 1, none⟩) rfl (.slice A6 z.length c6)
      refine ⟨.slice A6 z.length c6, HP6.out, blk_set HBK6.out 1 _, ?_, ((Keep.old (F := fun j => F j ∨ j = b) HB1.out).trans (HK6.out.mono (G := fun j => F j ∨ j = b) fun _ _ h => .inl h) fun _ _ h => h).trans (k3.mono (G := fun j => F j ∨ j = b) fun _ _ h => .inr h) fun _ _ h => h⟩
      rw [HZ.out]
      have hs1 := HS1.out
      have hpb := HPB.out
      have hnb := H1.out.out
      refine (HO6.out.keep k3 fun k h e => ?_).mono fun k h => ?_
      · rcases h with h | h | h
        · exact hnb (e ▸ h.1)
        · exact hGb (e ▸ h.1)
        · simp at h; omega
      · rcases h with h | h | h
        · exact .inl h.1
        · exact .inr (.inl h.1)
        · simp at h; exact .inr (.inr (by omega))
  case rest =>
    obtain ⟨v', hob2, hbk, hown, hkw⟩ := hcut
    obtain ⟨A2, c2, rfl, hc2⟩ := hown.slice
    have HBK := Lib.hid hbk; have HOW := Lib.hid hown; have HKW := Lib.hid hkw; have HOB := Lib.hid hob2
    have hltc := blk_lt hbk
    have d1 := blk_cell hbk 1
    simp only [rcell, List.getElem?_toArray, List.getElem?_cons_zero, List.getElem?_cons_succ] at d1
    have hz : (dk.fs ++ [f]).length = dk.fs.length + 1 := by simp
    obtain ⟨N, hN⟩ : ∃ N, dk.fs.length = N := ⟨_, rfl⟩
    rw [hz, hN] at d1 hc2
    have hN1 : N ≤ 1000 := by omega
    have HN := Lib.hid hN
    clear hbk hown hkw hz hN p0 p1 p2 c1 f1 hob2
    go_wp2_with fail
    have hout : ¬ (F b ∨ G b ∨ w.heap.size ≤ b) := fun h => h.elim H.out.out fun h => h.elim hGb fun h => by omega
    obtain ⟨FF, hFF⟩ : ∃ FF : Nat → Prop, (fun j => F j ∨ G j ∨ w.heap.size ≤ j) = FF := ⟨_, rfl⟩
    have HFF := Lib.hid hFF
    have HZ1 : Hid ((dk.fs ++ [f]).length = N + 1) := Lib.hid (by simp [HN.out])
    obtain ⟨M, hM⟩ : ∃ M, N + 1 = M := ⟨_, rfl⟩
    have HM := Lib.hid hM
    have hMN : N < M := by omega
    have hM1 : M ≤ 1001 := by omega
    have hMc : M ≤ c2 := by omega
    have HRC : Hid (RIn wc FF b { dk with fs := dk.fs ++ [f] } (.slice A2 M c2) last) := Lib.hid (by rw [← HM.out, ← HZ1.out, ← HFF.out]; exact ⟨HBK.out, HOW.out, hout, H.out.lok⟩)
    have HOB2 : Hid (∀ k, (Value.slice A2 M c2).ownBlock = some k → F k ∨ w.heap.size ≤ k) := Lib.hid fun k hk => HOB.out k (by cases A2 <;> exact hk)
    have HKC : Hid (Keep (fun j => F j ∨ j = b) w wc) := HKW
    rw [hFF] at hR
    clear d1 hltc HBK HOW hFF hc2 hM HOB
    go_loopw [4] (fun i wr => ∃ (X Y : List Fl), i = .int .i64 X.length ∧ X ++ Y = dk.fs ∧ (∀ y ∈ Y, f.name < y.name) ∧ RIn wr FF b { dk with fs := X ++ f :: Y } (.slice A2 M c2) last ∧ Keep (fun j => (F j ∨ w.heap.size ≤ j) ∨ j = b) wc wr) (fun i _ => (intOf i).toNat)
    case atStart => exact ⟨dk.fs, [], by rw [HN.out], by simp, by simp, HRC.out, Keep.refl _ _⟩
    case round =>
      obtain ⟨X, Y, rfl, hxy, hgt, hri, hkr⟩ := hrel
      obtain ⟨k, hk⟩ : ∃ k, X.length = k := ⟨_, rfl⟩
      rw [hk]
      have hkN : k ≤ N := by
        have h1 := congrArg List.length hxy
        rw [List.length_append, HN.out, hk] at h1; omega
      have hri' := hri
      have HXY := Lib.hid hxy; have HGT := Lib.hid hgt; have HRI := Lib.hid hri; have HKR := Lib.hid hkr; have HXK := Lib.hid hk
      have hltr := hri.lt
      have c1 := blk_cell hri.blk 1
      simp only [rcell, List.getElem?_toArray, List.getElem?_cons_zero, List.getElem?_cons_succ] at c1
      have HC1 := Lib.hid c1
      have HFIN : Hid (X = [] ∨ (∃ A y, X = A ++ [y] ∧ ¬ f.name < y.name) → X ++ f :: Y = putF dk.fs f) := Lib.hid fun h => by
        rw [← hxy]
        refine (putF_mid f ?_ hgt).symm
        rcases h with rfl | ⟨A, y, rfl, hny⟩
        · simp
        · refine ord_last ?_ hny
          have := HO.out
          rw [← hxy] at this
          have h2 : List.Pairwise (· < ·) (names (A ++ [y]) ++ names Y) := by have := this; unfold Ord names at this; rw [List.map_append] at this; exact this
          exact (List.pairwise_append.1 h2).1
      have HEND : Hid (X ++ f :: Y = putF dk.fs f → RAt wr FF b { dk with fs := putF dk.fs f } ∧ Keep (fun j => F j ∨ j = b) w wr) := Lib.hid fun h => by
        refine ⟨⟨_, last, by rw [← h]; exact hri⟩, HKC.out.trans hkr fun i hi h => ?_⟩
        rcases h with (h | h) | h
        · exact .inl h
        · omega
        · exact .inr h
      clear hxy hgt hri hkr hk hri'
      have hl0 : Hid (k = 0 → X = []) := Lib.hid fun h => List.eq_nil_of_length_eq_zero (by rw [HXK.out, h])
      by_cases hk0 : k = 0
      · have hki : ¬ ((k : Int) > 0) := by omega
        go_upto_region 3 with fail
        refine wp_region_any (by kernel_rfl) ?_
        refine region_ext [(fun vv _ => vv = .int .i64 (k : Int)), (fun vv _ => vv = .bool false), (fun vv _ => vv = .bool false), (fun vv _ => vv = undef), (fun vv _ => vv = undef), (fun vv _ => vv = undef), (fun vv _ => vv = undef), (fun vv _ => vv = undef), (fun vv _ => vv = undef), (fun vv _ => vv = undef), (fun vv _ => vv = undef), (fun vv _ => vv = undef), (fun vv _ => vv = undef), (fun vv _ => vv = undef), (fun vv _ => vv = undef), (fun vv _ => vv = undef), (fun vv _ => vv = undef), (fun vv _ => vv = undef), (fun vv _ => vv = undef), (fun vv _ => vv = undef), (fun vv _ => vv = undef), (fun vv _ => vv = .bool false)]
          [[], [(0, 22)], [(1, 23)], [(2, 24)], [(2, 24), (3, 25)], [(2, 24), (4, 26)], [(2, 24), (5, 27)], [(2, 24)], [(2, 24), (6, 28), (7, 29)], [(2, 24), (8, 30)], [(2, 24), (9, 31)], [(2, 24)], [(2, 24), (11, 33)], [(2, 24), (12, 34)], [(2, 24), (13, 35)], [(2, 24)], [(2, 24), (15, 37)], [(2, 24), (14, 36), (16, 38)], [(2, 24), (17, 39)], [(2, 24), (18, 40)], [(2, 24), (10, 32), (19, 41)], [(2, 24), (20, 42)]]
          [none, none, none, some (24, true), some (24, true), some (24, true), some (24, true), some (24, true), some (24, true), some (24, true), some (24, true), some (24, true), some (24, true), some (24, true), some (24, true), some (24, true), some (24, true), some (24, true), some (24, true), some (24, true), some (24, true), none]
          [some 22, some 23, some 24, some 25, some 26, some 27, some 28, some 29, some 30, some 31, some 32, some 33, some 34, some 35, some 36, some 37, some 38, some 39, some 40, some 41, some 42, some 43] 22 (by kernel_rfl) (by kernel_rfl) (by kernel_rfl) rfl (by kernel_rfl) ?_ ?_ ?_
        · exact ⟨fun _ _ _ _ h => h, fun _ _ _ _ h => h, fun _ _ _ _ h => h, fun _ _ _ _ h => h, fun _ _ _ _ h => h, fun _ _ _ _ h => h, fun _ _ _ _ h => h, fun _ _ _ _ h => h, fun _ _ _ _ h => h, fun _ _ _ _ h => h, fun _ _ _ _ h => h, fun _ _ _ _ h => h, fun _ _ _ _ h => h, fun _ _ _ _ h => h, fun _ _ _ _ h => h, fun _ _ _ _ h => h, fun _ _ _ _ h => h, fun _ _ _ _ h => h, fun _ _ _ _ h => h, fun _ _ _ _ h => h, fun _ _ _ _ h => h, fun _ _ _ _ h => h, trivial⟩
        · refine ⟨fun ρ wx _ hx _ => gives_move (hx (.tmp 4) (by simp)), ?_, fun ρ wx _ _ hd => gives_move hd.1, fun ρ wx _ _ hd => .inr ⟨off_f hd.1, rfl⟩, fun ρ wx _ _ hd => .inr ⟨off_f hd.1, rfl⟩, fun ρ wx _ _ hd => .inr ⟨off_f hd.1, rfl⟩, fun ρ wx _ _ hd => .inr ⟨off_f hd.1, rfl⟩, fun ρ wx _ _ hd => .inr ⟨off_f hd.1, rfl⟩, fun ρ wx _ _ hd => .inr ⟨off_f hd.1, rfl⟩, fun ρ wx _ _ hd => .inr ⟨off_f hd.1, rfl⟩, fun ρ wx _ _ hd => .inr ⟨off_f hd.1, rfl⟩, fun ρ wx _ _ hd => .inr ⟨off_f hd.1, rfl⟩, fun ρ wx _ _ hd => .inr ⟨off_f hd.1, rfl⟩, fun ρ wx _ _ hd => .inr ⟨off_f hd.1, rfl⟩, fun ρ wx _ _ hd => .inr ⟨off_f hd.1, rfl⟩, fun ρ wx _ _ hd => .inr ⟨off_f hd.1, rfl⟩, fun ρ wx _ _ hd => .inr ⟨off_f hd.1, rfl⟩, fun ρ wx _ _ hd => .inr ⟨off_f hd.1, rfl⟩, fun ρ wx _ _ hd => .inr ⟨off_f hd.1, rfl⟩, fun ρ wx _ _ hd => .inr ⟨off_f hd.1, rfl⟩, fun ρ wx _ _ hd => .inr ⟨off_f hd.1, rfl⟩, ?_, trivial⟩
          · intro ρ wx hE hx hd
            replace hE := Ext.undrew hE
            have e22 : ρ (.tmp 22) = .int .i64 (k : Int) := hd.1
            have hk : ∀ v, ρ (.const v) = v := fun v => (hx (.const v) (by simp)).trans rfl
            exact gives_val (G := fun vv _ => vv = .bool false) (v := .bool false) (by simp [execOp, e22, hk, go_sem, hk0]) rfl
          · intro ρ wx hE hx hd
            replace hE := Ext.undrew hE
            have e24 : ρ (.tmp 24) = .bool false := hd.1
            have e42 : ρ (.tmp 42) = undef := hd.2.1
            have hk : ∀ v, ρ (.const v) = v := fun v => (hx (.const v) (by simp)).trans rfl
            exact gives_val (G := fun vv _ => vv = .bool false) (v := .bool false) (by simp [execOp, e24, e42, hk, go_sem]) rfl
        intro wx hE
        refine fun v22 (e22 : v22 = .int .i64 (k : Int)) => ?_
        refine fun v23 (e23 : v23 = .bool false) => ?_
        refine fun v24 (e24 : v24 = .bool false) => ?_
        refine fun v25 (e25 : v25 = undef) => ?_
        refine fun v26 (e26 : v26 = undef) => ?_
        refine fun v27 (e27 : v27 = undef) => ?_
        refine fun v28 (e28 : v28 = undef) => ?_
        refine fun v29 (e29 : v29 = undef) => ?_
        refine fun v30 (e30 : v30 = undef) => ?_
        refine fun v31 (e31 : v31 = undef) => ?_
        refine fun v32 (e32 : v32 = undef) => ?_
        refine fun v33 (e33 : v33 = undef) => ?_
        refine fun v34 (e34 : v34 = undef) => ?_
        refine fun v35 (e35 : v35 = undef) => ?_
        refine fun v36 (e36 : v36 = undef) => ?_
        refine fun v37 (e37 : v37 = undef) => ?_
        refine fun v38 (e38 : v38 = undef) => ?_
        refine fun v39 (e39 : v39 = undef) => ?_
        refine fun v40 (e40 : v40 = undef) => ?_
        refine fun v41 (e41 : v41 = undef) => ?_
        refine fun v42 (e42 : v42 = undef) => ?_
        refine fun v43 (e43 : v43 = .bool false) => ?_
        subst e22 e23 e24 e25 e26 e27 e28 e29 e30 e31 e32 e33 e34 e35 e36 e37 e38 e39 e40 e41 e42 e43
        refine rest_nil ?_
        refine wpList_nil ?_
        simp only [Exit.then, Act.put, List.setIfInBounds_toArray, List.set_cons_zero, List.set_cons_succ]
        obtain ⟨he1, he2⟩ := HEND.out (HFIN.out (.inl (hl0.out hk0)))
        have HE1 := Lib.hid he1; have HE2 := Lib.hid he2
        clear he1 he2 c1
        go_wp2_with fail
        obtain ⟨lv3, last3, h3⟩ := HE1.out
        exact bodyPost_end (v := .tuple #[]) (by simp [results, Try.results59]) rfl (hR _ _ ⟨rfl, ⟨lv3, last3, h3.below hE⟩, HE2.out.trans (Keep.old hE) fun _ _ h => h⟩)
      · obtain ⟨A, y, hAy⟩ : ∃ A y, X = A ++ [y] := split_last fun e => hk0 (by rw [← HXK.out, e]; rfl)
        obtain ⟨j, hj⟩ : ∃ j, A.length = j := ⟨_, rfl⟩
        have HJ := Lib.hid hj
        have HKJ : Hid (k = j + 1) := Lib.hid (by rw [← HXK.out, hAy, List.length_append, hj]; rfl)
        have HX2 : Hid (X ++ f :: Y = A ++ y :: f :: Y) := Lib.hid (by rw [hAy]; simp)
        have HAY := Lib.hid hAy
        have HR2 : Hid (RIn wr FF b { dk with fs := A ++ y :: f :: Y } (.slice A2 M c2) last) := Lib.hid (by rw [← HX2.out]; exact HRI.out)
        clear hAy hj
        have HGJ : Hid (({ dk with fs := A ++ y :: f :: Y } : Dk).fs[j]? = some y) := Lib.hid (by rw [← HJ.out]; exact get_mid A (f :: Y) y)
        have HGK : Hid (({ dk with fs := A ++ y :: f :: Y } : Dk).fs[k]? = some f) := Lib.hid (by rw [HKJ.out, ← HJ.out]; exact get_mid1 A Y y f)
        obtain ⟨g, c3, By, cy, hlv, hFg, hgl, hjl, _, d0, d1, d2, hcy, hvy, hfz, hBn⟩ := rf_at HR2.out j y HGJ.out
        obtain ⟨g', c4, Bf, cf, hlv', _, _, hkl, _, e0, e1, e2, hcf, hvf, _, hBnf⟩ := rf_at HR2.out k f HGK.out
        obtain ⟨rfl, hlm, hlc⟩ := Value.slice.inj hlv
        obtain ⟨hgg, hlm', hlc'⟩ := Value.slice.inj hlv'
        clear hlm hlc hlm' hlc'
        have hgg : g' = g := by cases hgg; rfl
        subst hgg
        have hgo : F g' ∨ w.heap.size ≤ g' := HOB2.out g' rfl
        obtain ⟨SF, hSF⟩ : ∃ SF, ofL f.name = SF := ⟨_, rfl⟩
        obtain ⟨SY, hSY⟩ : ∃ SY, ofL y.name = SY := ⟨_, rfl⟩
        obtain ⟨nf, hnf⟩ : ∃ nf, f.b.length = nf := ⟨_, rfl⟩
        obtain ⟨ny, hny⟩ : ∃ ny, y.b.length = ny := ⟨_, rfl⟩
        rw [hSY] at d0; rw [hny] at d1 hvy; rw [hSF] at e0; rw [hnf] at e1 hvf
        have HBL : Hid (Op.bytesLess SF.toList SY.toList = decide (f.name < y.name)) := Lib.hid (by rw [← hSF, ← hSY, toList_ofL, toList_ofL, Go.Proofs.bytesLess_eq])
        have HSF : Hid (toL SF = f.name) := Lib.hid (by rw [← hSF, toL_ofL])
        have HSY : Hid (toL SY = y.name) := Lib.hid (by rw [← hSY, toL_ofL])
        have HD0 := Lib.hid d0; have HD1 := Lib.hid d1; have HD2 := Lib.hid d2
        have HE0 := Lib.hid e0; have HE1 := Lib.hid e1; have HE2 := Lib.hid e2
        have HVY := Lib.hid hvy; have HVF := Lib.hid hvf
        have hki : (k : Int) < (M : Int) := by omega
        have hji : (j : Int) < (M : Int) := by have := HKJ.out; omega
        have hkp : (k : Int) > 0 := by omega
        have HW1 : Hid (IntKind.wrap .i64 ((k : Int) - 1) = (j : Int)) := Lib.hid (by rw [kwrap_in _ (by omega)]; have := HKJ.out; omega)
        have HOUT : Hid (¬ FF b) := Lib.hid HR2.out.out
        clear d0 d1 d2 e0 e1 e2 hvy hvf hSF hSY hnf hny hcy hcf hBn hBnf hlv hlv' hjl hkl hfz
        go_upto_region 3 with fail
        clear c1
        by_cases hfy : f.name < y.name
        · have hbl : Op.bytesLess SF.toList SY.toList = true := by rw [HBL.out]; exact decide_eq_true hfy
          refine wp_region_any (by kernel_rfl) ?_
          refine region_ext [(fun vv _ => vv = .int .i64 (k : Int)), (fun vv _ => vv = .bool true), (fun vv _ => vv = .bool true), (fun vv _ => vv = .pointer (some ⟨b, 0, none⟩)), (fun vv _ => vv = .pointer (some ⟨b, 0, none⟩)), (fun vv _ => vv = .pointer (some ⟨b, 1, none⟩)), (fun vv _ => vv = .slice (some ⟨g', 0, none⟩) M c2), (fun vv _ => vv = .int .i64 (k : Int)), (fun vv _ => vv = .pointer (some ⟨g', k * 3, none⟩)), (fun vv _ => vv = .pointer (some ⟨g', k * 3, none⟩)), (fun vv _ => vv = .string SF), (fun vv _ => vv = .pointer (some ⟨b, 0, none⟩)), (fun vv _ => vv = .pointer (some ⟨b, 0, none⟩)), (fun vv _ => vv = .pointer (some ⟨b, 1, none⟩)), (fun vv _ => vv = .slice (some ⟨g', 0, none⟩) M c2), (fun vv _ => vv = .int .i64 (k : Int)), (fun vv _ => vv = .int .i64 (j : Int)), (fun vv _ => vv = .pointer (some ⟨g', j * 3, none⟩)), (fun vv _ => vv = .pointer (some ⟨g', j * 3, none⟩)), (fun vv _ => vv = .string SY), (fun vv _ => vv = .bool true), (fun vv _ => vv = .bool true)]
            [[], [(0, 22)], [(1, 23)], [(2, 24)], [(2, 24), (3, 25)], [(2, 24), (4, 26)], [(2, 24), (5, 27)], [(2, 24)], [(2, 24), (6, 28), (7, 29)], [(2, 24), (8, 30)], [(2, 24), (9, 31)], [(2, 24)], [(2, 24), (11, 33)], [(2, 24), (12, 34)], [(2, 24), (13, 35)], [(2, 24)], [(2, 24), (15, 37)], [(2, 24), (14, 36), (16, 38)], [(2, 24), (17, 39)], [(2, 24), (18, 40)], [(2, 24), (10, 32), (19, 41)], [(2, 24), (20, 42)]]
            [none, none, none, some (24, true), some (24, true), some (24, true), some (24, true), some (24, true), some (24, true), some (24, true), some (24, true), some (24, true), some (24, true), some (24, true), some (24, true), some (24, true), some (24, true), some (24, true), some (24, true), some (24, true), some (24, true), none]
            [some 22, some 23, some 24, some 25, some 26, some 27, some 28, some 29, some 30, some 31, some 32, some 33, some 34, some 35, some 36, some 37, some 38, some 39, some 40, some 41, some 42, some 43] 22 (by kernel_rfl) (by kernel_rfl) (by kernel_rfl) rfl (by kernel_rfl) ?_ ?_ ?_
          · exact ⟨fun _ _ _ _ h => h, fun _ _ _ _ h => h, fun _ _ _ _ h => h, fun _ _ _ _ h => h, fun _ _ _ _ h => h, fun _ _ _ _ h => h, fun _ _ _ _ h => h, fun _ _ _ _ h => h, fun _ _ _ _ h => h, fun _ _ _ _ h => h, fun _ _ _ _ h => h, fun _ _ _ _ h => h, fun _ _ _ _ h => h, fun _ _ _ _ h => h, fun _ _ _ _ h => h, fun _ _ _ _ h => h, fun _ _ _ _ h => h, fun _ _ _ _ h => h, fun _ _ _ _ h => h, fun _ _ _ _ h => h, fun _ _ _ _ h => h, fun _ _ _ _ h => h, trivial⟩
          · refine ⟨fun ρ wx _ hx _ => gives_move (hx (.tmp 4) (by simp)), ?_, fun ρ wx _ _ hd => gives_move hd.1, ?_, ?_, ?_, ?_, ?_, ?_, ?_, ?_, ?_, ?_, ?_, ?_, ?_, ?_, ?_, ?_, ?_, ?_, ?_, trivial⟩
            · intro ρ wx hE hx hd
              replace hE := Ext.undrew hE
              have e22 : ρ (.tmp 22) = .int .i64 (k : Int) := hd.1
              have hk : ∀ v, ρ (.const v) = v := fun v => (hx (.const v) (by simp)).trans rfl
              exact gives_val (G := fun vv _ => vv = .bool true) (v := .bool true) (by simp [execOp, e22, hk, go_sem, hkp]; omega) rfl
            · intro ρ wx hE hx hd
              replace hE := Ext.undrew hE
              have e24 : ρ (.tmp 24) = .bool true := hd.1
              have e0 : ρ (.tmp 0) = .pointer (some ⟨b, 0, none⟩) := hx (.tmp 0) (by simp)
              refine .inl ⟨e24, ?_⟩
              exact gives_val (G := fun vv _ => vv = .pointer (some ⟨b, 0, none⟩)) (v := .pointer (some ⟨b, 0, none⟩)) (by simp [execOp, e24, e0, go_sem]) rfl
            · intro ρ wx hE hx hd
              replace hE := Ext.undrew hE
              have e24 : ρ (.tmp 24) = .bool true := hd.1
              have e25 : ρ (.tmp 25) = .pointer (some ⟨b, 0, none⟩) := hd.2.1
              refine .inl ⟨e24, ?_⟩
              exact gives_val (G := fun vv _ => vv = .pointer (some ⟨b, 0, none⟩)) (v := .pointer (some ⟨b, 0, none⟩)) (by simp [execOp, e24, e25, go_sem]) rfl
            · intro ρ wx hE hx hd
              replace hE := Ext.undrew hE
              have e24 : ρ (.tmp 24) = .bool true := hd.1
              have e26 : ρ (.tmp 26) = .pointer (some ⟨b, 0, none⟩) := hd.2.1
              refine .inl ⟨e24, ?_⟩
              exact gives_val (G := fun vv _ => vv = .pointer (some ⟨b, 1, none⟩)) (v := .pointer (some ⟨b, 1, none⟩)) (by simp [execOp, e24, e26, go_sem]) rfl
            · intro ρ wx hE hx hd
              replace hE := Ext.undrew hE
              have e24 : ρ (.tmp 24) = .bool true := hd.1
              have e27 : ρ (.tmp 27) = .pointer (some ⟨b, 1, none⟩) := hd.2.1
              refine .inl ⟨e24, ?_⟩
              have hcl := ext_cell hE HC1.out
              exact gives_val (G := fun vv _ => vv = .slice (some ⟨g', 0, none⟩) M c2) (v := .slice (some ⟨g', 0, none⟩) M c2) (by simp [execOp, e24, e27, hcl, go_sem]) rfl
            · intro ρ wx hE hx hd
              replace hE := Ext.undrew hE
              have e24 : ρ (.tmp 24) = .bool true := hd.1
              have e4 : ρ (.tmp 4) = .int .i64 (k : Int) := hx (.tmp 4) (by simp)
              refine .inl ⟨e24, ?_⟩
              exact gives_val (G := fun vv _ => vv = .int .i64 (k : Int)) (v := .int .i64 (k : Int)) (by simp [execOp, e24, e4, go_sem]) rfl
            · intro ρ wx hE hx hd
              replace hE := Ext.undrew hE
              have e24 : ρ (.tmp 24) = .bool true := hd.1
              have e28 : ρ (.tmp 28) = .slice (some ⟨g', 0, none⟩) M c2 := hd.2.1
              have e29 : ρ (.tmp 29) = .int .i64 (k : Int) := hd.2.2.1
              refine .inl ⟨e24, ?_⟩
              exact gives_val (G := fun vv _ => vv = .pointer (some ⟨g', k * 3, none⟩)) (v := .pointer (some ⟨g', k * 3, none⟩)) (by simp [execOp, e28, e29, go_sem, hki]) rfl
            · intro ρ wx hE hx hd
              replace hE := Ext.undrew hE
              have e24 : ρ (.tmp 24) = .bool true := hd.1
              have e30 : ρ (.tmp 30) = .pointer (some ⟨g', k * 3, none⟩) := hd.2.1
              refine .inl ⟨e24, ?_⟩
              exact gives_val (G := fun vv _ => vv = .pointer (some ⟨g', k * 3, none⟩)) (v := .pointer (some ⟨g', k * 3, none⟩)) (by simp [execOp, e24, e30, go_sem]) rfl
            · intro ρ wx hE hx hd
              replace hE := Ext.undrew hE
              have e24 : ρ (.tmp 24) = .bool true := hd.1
              have e31 : ρ (.tmp 31) = .pointer (some ⟨g', k * 3, none⟩) := hd.2.1
              refine .inl ⟨e24, ?_⟩
              have hcl := ext_cell hE HE0.out
              exact gives_val (G := fun vv _ => vv = .string SF) (v := .string SF) (by simp [execOp, e24, e31, hcl, go_sem]) rfl
            · intro ρ wx hE hx hd
              replace hE := Ext.undrew hE
              have e24 : ρ (.tmp 24) = .bool true := hd.1
              have e0 : ρ (.tmp 0) = .pointer (some ⟨b, 0, none⟩) := hx (.tmp 0) (by simp)
              refine .inl ⟨e24, ?_⟩
              exact gives_val (G := fun vv _ => vv = .pointer (some ⟨b, 0, none⟩)) (v := .pointer (some ⟨b, 0, none⟩)) (by simp [execOp, e24, e0, go_sem]) rfl
            · intro ρ wx hE hx hd
              replace hE := Ext.undrew hE
              have e24 : ρ (.tmp 24) = .bool true := hd.1
              have e33 : ρ (.tmp 33) = .pointer (some ⟨b, 0, none⟩) := hd.2.1
              refine .inl ⟨e24, ?_⟩
              exact gives_val (G := fun vv _ => vv = .pointer (some ⟨b, 0, none⟩)) (v := .pointer (some ⟨b, 0, none⟩)) (by simp [execOp, e24, e33, go_sem]) rfl
            · intro ρ wx hE hx hd
              replace hE := Ext.undrew hE
              have e24 : ρ (.tmp 24) = .bool true := hd.1
              have e34 : ρ (.tmp 34) = .pointer (some ⟨b, 0, none⟩) := hd.2.1
              refine .inl ⟨e24, ?_⟩
              exact gives_val (G := fun vv _ => vv = .pointer (some ⟨b, 1, none⟩)) (v := .pointer (some ⟨b, 1, none⟩)) (by simp [execOp, e24, e34, go_sem]) rfl
            · intro ρ wx hE hx hd
              replace hE := Ext.undrew hE
              have e24 : ρ (.tmp 24) = .bool true := hd.1
              have e35 : ρ (.tmp 35) = .pointer (some ⟨b, 1, none⟩) := hd.2.1
              refine .inl ⟨e24, ?_⟩
              have hcl := ext_cell hE HC1.out
              exact gives_val (G := fun vv _ => vv = .slice (some ⟨g', 0, none⟩) M c2) (v := .slice (some ⟨g', 0, none⟩) M c2) (by simp [execOp, e24, e35, hcl, go_sem]) rfl
            · intro ρ wx hE hx hd
              replace hE := Ext.undrew hE
              have e24 : ρ (.tmp 24) = .bool true := hd.1
              have e4 : ρ (.tmp 4) = .int .i64 (k : Int) := hx (.tmp 4) (by simp)
              refine .inl ⟨e24, ?_⟩
              exact gives_val (G := fun vv _ => vv = .int .i64 (k : Int)) (v := .int .i64 (k : Int)) (by simp [execOp, e24, e4, go_sem]) rfl
            · intro ρ wx hE hx hd
              replace hE := Ext.undrew hE
              have e24 : ρ (.tmp 24) = .bool true := hd.1
              have e37 : ρ (.tmp 37) = .int .i64 (k : Int) := hd.2.1
              have hk : ∀ v, ρ (.const v) = v := fun v => (hx (.const v) (by simp)).trans rfl
              refine .inl ⟨e24, ?_⟩
              exact gives_val (G := fun vv _ => vv = .int .i64 (j : Int)) (v := .int .i64 (j : Int)) (by simp [execOp, e37, hk, HW1.out, go_sem]) rfl
            · intro ρ wx hE hx hd
              replace hE := Ext.undrew hE
              have e24 : ρ (.tmp 24) = .bool true := hd.1
              have e36 : ρ (.tmp 36) = .slice (some ⟨g', 0, none⟩) M c2 := hd.2.1
              have e38 : ρ (.tmp 38) = .int .i64 (j : Int) := hd.2.2.1
              refine .inl ⟨e24, ?_⟩
              exact gives_val (G := fun vv _ => vv = .pointer (some ⟨g', j * 3, none⟩)) (v := .pointer (some ⟨g', j * 3, none⟩)) (by simp [execOp, e36, e38, go_sem, hji]) rfl
            · intro ρ wx hE hx hd
              replace hE := Ext.undrew hE
              have e24 : ρ (.tmp 24) = .bool true := hd.1
              have e39 : ρ (.tmp 39) = .pointer (some ⟨g', j * 3, none⟩) := hd.2.1
              refine .inl ⟨e24, ?_⟩
              exact gives_val (G := fun vv _ => vv = .pointer (some ⟨g', j * 3, none⟩)) (v := .pointer (some ⟨g', j * 3, none⟩)) (by simp [execOp, e24, e39, go_sem]) rfl
            · intro ρ wx hE hx hd
              replace hE := Ext.undrew hE
              have e24 : ρ (.tmp 24) = .bool true := hd.1
              have e40 : ρ (.tmp 40) = .pointer (some ⟨g', j * 3, none⟩) := hd.2.1
              refine .inl ⟨e24, ?_⟩
              have hcl := ext_cell hE HD0.out
              exact gives_val (G := fun vv _ => vv = .string SY) (v := .string SY) (by simp [execOp, e24, e40, hcl, go_sem]) rfl
            · intro ρ wx hE hx hd
              replace hE := Ext.undrew hE
              have e24 : ρ (.tmp 24) = .bool true := hd.1
              have e32 : ρ (.tmp 32) = .string SF := hd.2.1
              have e41 : ρ (.tmp 41) = .string SY := hd.2.2.1
              refine .inl ⟨e24, ?_⟩
              exact gives_val (G := fun vv _ => vv = .bool true) (v := .bool true) (by simp [execOp, e32, e41, go_sem, hbl]) rfl
            · intro ρ wx hE hx hd
              replace hE := Ext.undrew hE
              have e24 : ρ (.tmp 24) = .bool true := hd.1
              have e42 : ρ (.tmp 42) = .bool true := hd.2.1
              have hk : ∀ v, ρ (.const v) = v := fun v => (hx (.const v) (by simp)).trans rfl
              exact gives_val (G := fun vv _ => vv = .bool true) (v := .bool true) (by simp [execOp, e24, e42, hk, go_sem]) rfl
          intro wx hE
          refine fun v22 (e22 : v22 = .int .i64 (k : Int)) => ?_
          refine fun v23 (e23 : v23 = .bool true) => ?_
          refine fun v24 (e24 : v24 = .bool true) => ?_
          refine fun v25 (e25 : v25 = .pointer (some ⟨b, 0, none⟩)) => ?_
          refine fun v26 (e26 : v26 = .pointer (some ⟨b, 0, none⟩)) => ?_
          refine fun v27 (e27 : v27 = .pointer (some ⟨b, 1, none⟩)) => ?_
          refine fun v28 (e28 : v28 = .slice (some ⟨g', 0, none⟩) M c2) => ?_
          refine fun v29 (e29 : v29 = .int .i64 (k : Int)) => ?_
          refine fun v30 (e30 : v30 = .pointer (some ⟨g', k * 3, none⟩)) => ?_
          refine fun v31 (e31 : v31 = .pointer (some ⟨g', k * 3, none⟩)) => ?_
          refine fun v32 (e32 : v32 = .string SF) => ?_
          refine fun v33 (e33 : v33 = .pointer (some ⟨b, 0, none⟩)) => ?_
          refine fun v34 (e34 : v34 = .pointer (some ⟨b, 0, none⟩)) => ?_
          refine fun v35 (e35 : v35 = .pointer (some ⟨b, 1, none⟩)) => ?_
          refine fun v36 (e36 : v36 = .slice (some ⟨g', 0, none⟩) M c2) => ?_
          refine fun v37 (e37 : v37 = .int .i64 (k : Int)) => ?_
          refine fun v38 (e38 : v38 = .int .i64 (j : Int)) => ?_
          refine fun v39 (e39 : v39 = .pointer (some ⟨g', j * 3, none⟩)) => ?_
          refine fun v40 (e40 : v40 = .pointer (some ⟨g', j * 3, none⟩)) => ?_
          refine fun v41 (e41 : v41 = .string SY) => ?_
          refine fun v42 (e42 : v42 = .bool true) => ?_
          refine fun v43 (e43 : v43 = .bool true) => ?_
          subst e22 e23 e24 e25 e26 e27 e28 e29 e30 e31 e32 e33 e34 e35 e36 e37 e38 e39 e40 e41 e42 e43
          refine rest_nil ?_
          refine wpList_nil ?_
          simp only [Exit.then, Act.put, List.setIfInBounds_toArray, List.set_cons_zero, List.set_cons_succ]
          have c1 := ext_cell hE HC1.out
          have e0 := ext_cell hE HE0.out
          have e1 := ext_cell hE HE1.out
          have e2 := ext_cell hE HE2.out
          have hxl := hE.size
          have HEX := Lib.hid hE
          clear hE hbl
          go_upto_region 6 with fail
          obtain ⟨w5, hw5⟩ : ∃ w5, wx.alloc (.cells #[.string SF, .slice Bf nf cf, .int .i64 f.sy] 95) = w5 := ⟨_, rfl⟩
          obtain ⟨q, hq⟩ : ∃ q, wx.heap.size = q := ⟨_, rfl⟩
          have hb5 : Ext wx w5 := hw5 ▸ below_new _ _
          have hq5 : w5.heap[q]? = some (.cells #[.string SF, .slice Bf nf cf, .int .i64 f.sy] 95 (0, 0)) := hw5 ▸ hq ▸ blk_new _ _
          have hbq : wr.heap.size ≤ q := hq ▸ hxl
          rw [hw5, hq]
          have HE5 : Hid (Ext wr w5) := Lib.hid (HEX.out.trans hb5)
          have HQ5 := Lib.hid hq5
          clear c1 e0 e1 e2 hw5 hb5 hq hxl HEX hq5
          have HR5 : Hid (RIn w5 FF b { dk with fs := A ++ y :: f :: Y } (.slice (some ⟨g', 0, none⟩) M c2) last) := Lib.hid (HR2.out.below HE5.out)
          have HC5 := Lib.hid (ext_cell HE5.out HC1.out)
          have HD50 := Lib.hid (ext_cell HE5.out HD0.out); have HD51 := Lib.hid (ext_cell HE5.out HD1.out); have HD52 := Lib.hid (ext_cell HE5.out HD2.out)
          refine wp_region_any (by kernel_rfl) ?_
          refine region_ext [(fun vv _ => vv = .pointer (some ⟨b, 0, none⟩)), (fun vv _ => vv = .pointer (some ⟨b, 0, none⟩)), (fun vv _ => vv = .pointer (some ⟨b, 1, none⟩)), (fun vv _ => vv = .slice (some ⟨g', 0, none⟩) M c2), (fun vv _ => vv = .int .i64 (k : Int)), (fun vv _ => vv = .pointer (some ⟨b, 0, none⟩)), (fun vv _ => vv = .pointer (some ⟨b, 0, none⟩)), (fun vv _ => vv = .pointer (some ⟨b, 1, none⟩)), (fun vv _ => vv = .slice (some ⟨g', 0, none⟩) M c2), (fun vv _ => vv = .int .i64 (k : Int)), (fun vv _ => vv = .int .i64 (j : Int)), (fun vv _ => vv = .pointer (some ⟨g', j * 3, none⟩)), (fun vv _ => vv = .agg #[.string SY, .slice By ny cy, .int .i64 y.sy]), (fun vv _ => vv = .pointer (some ⟨g', k * 3, none⟩))]
            [[], [(0, 53)], [(1, 54)], [(2, 55)], [], [], [(5, 58)], [(6, 59)], [(7, 60)], [], [(9, 62)], [(8, 61), (10, 63)], [(11, 64)], [(3, 56), (4, 57)], []]
            [none, none, none, none, none, none, none, none, none, none, none, none, none, none, none]
            [some 53, some 54, some 55, some 56, some 57, some 58, some 59, some 60, some 61, some 62, some 63, some 64, some 65, some 66] 14 (by kernel_rfl) (by kernel_rfl) (by kernel_rfl) rfl (by kernel_rfl) ?_ ?_ ?_
          · exact ⟨fun _ _ _ _ h => h, fun _ _ _ _ h => h, fun _ _ _ _ h => h, fun _ _ _ _ h => h, fun _ _ _ _ h => h, fun _ _ _ _ h => h, fun _ _ _ _ h => h, fun _ _ _ _ h => h, fun _ _ _ _ h => h, fun _ _ _ _ h => h, fun _ _ _ _ h => h, fun _ _ _ _ h => h, fun _ _ _ _ h => h, fun _ _ _ _ h => h, trivial⟩
          · refine ⟨fun ρ wx _ hx _ => gives_move (hx (.tmp 0) (by simp)), ?_, ?_, ?_, fun ρ wx _ hx _ => gives_move (hx (.tmp 4) (by simp)), fun ρ wx _ hx _ => gives_move (hx (.tmp 0) (by simp)), ?_, ?_, ?_, fun ρ wx _ hx _ => gives_move (hx (.tmp 4) (by simp)), ?_, ?_, ?_, ?_, trivial⟩
            · intro ρ wx hE hx hd
              replace hE := Ext.undrew hE
              have e53 : ρ (.tmp 53) = .pointer (some ⟨b, 0, none⟩) := hd.1
              exact gives_val (G := fun vv _ => vv = .pointer (some ⟨b, 0, none⟩)) (v := .pointer (some ⟨b, 0, none⟩)) (by simp [execOp, e53, go_sem]) rfl
            · intro ρ wx hE hx hd
              replace hE := Ext.undrew hE
              have e54 : ρ (.tmp 54) = .pointer (some ⟨b, 0, none⟩) := hd.1
              exact gives_val (G := fun vv _ => vv = .pointer (some ⟨b, 1, none⟩)) (v := .pointer (some ⟨b, 1, none⟩)) (by simp [execOp, e54, go_sem]) rfl
            · intro ρ wx hE hx hd
              replace hE := Ext.undrew hE
              have e55 : ρ (.tmp 55) = .pointer (some ⟨b, 1, none⟩) := hd.1
              have hcl := ext_cell hE HC5.out
              exact gives_val (G := fun vv _ => vv = .slice (some ⟨g', 0, none⟩) M c2) (v := .slice (some ⟨g', 0, none⟩) M c2) (by simp [execOp, e55, hcl, go_sem]) rfl
            · intro ρ wx hE hx hd
              replace hE := Ext.undrew hE
              have e58 : ρ (.tmp 58) = .pointer (some ⟨b, 0, none⟩) := hd.1
              exact gives_val (G := fun vv _ => vv = .pointer (some ⟨b, 0, none⟩)) (v := .pointer (some ⟨b, 0, none⟩)) (by simp [execOp, e58, go_sem]) rfl
            · intro ρ wx hE hx hd
              replace hE := Ext.undrew hE
              have e59 : ρ (.tmp 59) = .pointer (some ⟨b, 0, none⟩) := hd.1
              exact gives_val (G := fun vv _ => vv = .pointer (some ⟨b, 1, none⟩)) (v := .pointer (some ⟨b, 1, none⟩)) (by simp [execOp, e59, go_sem]) rfl
            · intro ρ wx hE hx hd
              replace hE := Ext.undrew hE
              have e60 : ρ (.tmp 60) = .pointer (some ⟨b, 1, none⟩) := hd.1
              have hcl := ext_cell hE HC5.out
              exact gives_val (G := fun vv _ => vv = .slice (some ⟨g', 0, none⟩) M c2) (v := .slice (some ⟨g', 0, none⟩) M c2) (by simp [execOp, e60, hcl, go_sem]) rfl
            · intro ρ wx hE hx hd
              replace hE := Ext.undrew hE
              have e62 : ρ (.tmp 62) = .int .i64 (k : Int) := hd.1
              have hk : ∀ v, ρ (.const v) = v := fun v => (hx (.const v) (by simp)).trans rfl
              exact gives_val (G := fun vv _ => vv = .int .i64 (j : Int)) (v := .int .i64 (j : Int)) (by simp [execOp, e62, hk, HW1.out, go_sem]) rfl
            · intro ρ wx hE hx hd
              replace hE := Ext.undrew hE
              have e61 : ρ (.tmp 61) = .slice (some ⟨g', 0, none⟩) M c2 := hd.1
              have e63 : ρ (.tmp 63) = .int .i64 (j : Int) := hd.2.1
              exact gives_val (G := fun vv _ => vv = .pointer (some ⟨g', j * 3, none⟩)) (v := .pointer (some ⟨g', j * 3, none⟩)) (by simp [execOp, e61, e63, go_sem, hji]) rfl
            · intro ρ wx hE hx hd
              replace hE := Ext.undrew hE
              have e64 : ρ (.tmp 64) = .pointer (some ⟨g', j * 3, none⟩) := hd.1
              have l0 := ext_cell hE HD50.out; have l1 := ext_cell hE HD51.out; have l2 := ext_cell hE HD52.out; exact gives_val (G := fun vv _ => vv = .agg #[.string SY, .slice By ny cy, .int .i64 y.sy]) (v := .agg #[.string SY, .slice By ny cy, .int .i64 y.sy]) (by simp [execOp, e64, l0, l1, l2, go_sem]) rfl
            · intro ρ wx hE hx hd
              replace hE := Ext.undrew hE
              have e56 : ρ (.tmp 56) = .slice (some ⟨g', 0, none⟩) M c2 := hd.1
              have e57 : ρ (.tmp 57) = .int .i64 (k : Int) := hd.2.1
              exact gives_val (G := fun vv _ => vv = .pointer (some ⟨g', k * 3, none⟩)) (v := .pointer (some ⟨g', k * 3, none⟩)) (by simp [execOp, e56, e57, go_sem, hki]) rfl
          intro wx hE
          refine fun v53 (e53 : v53 = .pointer (some ⟨b, 0, none⟩)) => ?_
          refine fun v54 (e54 : v54 = .pointer (some ⟨b, 0, none⟩)) => ?_
          refine fun v55 (e55 : v55 = .pointer (some ⟨b, 1, none⟩)) => ?_
          refine fun v56 (e56 : v56 = .slice (some ⟨g', 0, none⟩) M c2) => ?_
          refine fun v57 (e57 : v57 = .int .i64 (k : Int)) => ?_
          refine fun v58 (e58 : v58 = .pointer (some ⟨b, 0, none⟩)) => ?_
          refine fun v59 (e59 : v59 = .pointer (some ⟨b, 0, none⟩)) => ?_
          refine fun v60 (e60 : v60 = .pointer (some ⟨b, 1, none⟩)) => ?_
          refine fun v61 (e61 : v61 = .slice (some ⟨g', 0, none⟩) M c2) => ?_
          refine fun v62 (e62 : v62 = .int .i64 (k : Int)) => ?_
          refine fun v63 (e63 : v63 = .int .i64 (j : Int)) => ?_
          refine fun v64 (e64 : v64 = .pointer (some ⟨g', j * 3, none⟩)) => ?_
          refine fun v65 (e65 : v65 = .agg #[.string SY, .slice By ny cy, .int .i64 y.sy]) => ?_
          refine fun v66 (e66 : v66 = .pointer (some ⟨g', k * 3, none⟩)) => ?_
          subst e53 e54 e55 e56 e57 e58 e59 e60 e61 e62 e63 e64 e65 e66
          refine rest_nil ?_
          simp only [List.drop_succ_cons, List.drop_zero, Act.put, List.setIfInBounds_toArray, List.set_cons_zero, List.set_cons_succ]
          have HRX := Lib.hid (HR5.out.below hE)
          have HVX : Hid (View Rp.u8 wx (fun i => FF i ∧ i ≠ g') y.b (.slice By ny cy)) := Lib.hid ((HVY.out.below HE5.out).below hE)
          have HQX := Lib.hid ((hE.block q (blk_lt HQ5.out)).trans HQ5.out)
          obtain ⟨hr6, hk6⟩ := rset_e HRX.out hFg k (by simp; have := HKJ.out; have := HJ.out; omega) y SY HSY.out (.slice By ny cy) HVX.out
          obtain ⟨w6, hw6⟩ : ∃ w6, (((wx.setCell ⟨g', k * 3, none⟩ (.string SY)).setCell ⟨g', k * 3 + 1, none⟩ (.slice By ny cy)).setCell ⟨g', k * 3 + 2, none⟩ (.int .i64 y.sy)) = w6 := ⟨_, rfl⟩
          rw [hw6] at hr6 hk6
          obtain ⟨gg, cc, Bk, ck, hlw, _, hgw, _, _, x0, x1, x2, _, _, hfw, _⟩ := rf_at HRX.out k f HGK.out
          obtain ⟨hgg, hlm, hlc⟩ := Value.slice.inj hlw
          cases hgg
          have x3 := hfw (k * 3); have x4 := hfw (k * 3 + 1); have x5 := hfw (k * 3 + 2)
          have HR6 := Lib.hid hr6; have HK6 := Lib.hid hk6; have HW6 := Lib.hid hw6
          clear hlm hlc hlw hr6 hk6 hw6 hfw
          go_upto_region 7 with fail
          rw [HW6.out]
          clear x0 x1 x2 x3 x4 x5 HW6
          have HC6 := Lib.hid (blk_cell HR6.out.blk 1)
          simp only [rcell, List.getElem?_toArray, List.getElem?_cons_zero, List.getElem?_cons_succ] at HC6
          have HQ6 := Lib.hid (HK6.out.blk HQX.out (by omega))
          have HVF6 : Hid (View Rp.u8 w6 (fun i => FF i ∧ i ≠ g') f.b (.slice Bf nf cf)) := Lib.hid (((HVF.out.below HE5.out).below hE).keep HK6.out fun i hi e => hi.2 e)
          have HEA : Hid (Ext w5 wx) := Lib.hid hE
          clear hE
          refine wp_region_any (by kernel_rfl) ?_
          refine region_ext [(fun vv _ => vv = .pointer (some ⟨b, 0, none⟩)), (fun vv _ => vv = .pointer (some ⟨b, 0, none⟩)), (fun vv _ => vv = .pointer (some ⟨b, 1, none⟩)), (fun vv _ => vv = .slice (some ⟨g', 0, none⟩) M c2), (fun vv _ => vv = .int .i64 (k : Int)), (fun vv _ => vv = .int .i64 (j : Int)), (fun vv _ => vv = .agg #[.string SF, .slice Bf nf cf, .int .i64 f.sy]), (fun vv _ => vv = .pointer (some ⟨g', j * 3, none⟩))]
            [[], [(0, 67)], [(1, 68)], [(2, 69)], [], [(4, 71)], [], [(3, 70), (5, 72)], []]
            [none, none, none, none, none, none, none, none, none]
            [some 67, some 68, some 69, some 70, some 71, some 72, some 73, some 74] 8 (by kernel_rfl) (by kernel_rfl) (by kernel_rfl) rfl (by kernel_rfl) ?_ ?_ ?_
          · exact ⟨fun _ _ _ _ h => h, fun _ _ _ _ h => h, fun _ _ _ _ h => h, fun _ _ _ _ h => h, fun _ _ _ _ h => h, fun _ _ _ _ h => h, fun _ _ _ _ h => h, fun _ _ _ _ h => h, trivial⟩
          · refine ⟨fun ρ wx _ hx _ => gives_move (hx (.tmp 0) (by simp)), ?_, ?_, ?_, fun ρ wx _ hx _ => gives_move (hx (.tmp 4) (by simp)), ?_, ?_, ?_, trivial⟩
            · intro ρ wx hE hx hd
              replace hE := Ext.undrew hE
              have e67 : ρ (.tmp 67) = .pointer (some ⟨b, 0, none⟩) := hd.1
              exact gives_val (G := fun vv _ => vv = .pointer (some ⟨b, 0, none⟩)) (v := .pointer (some ⟨b, 0, none⟩)) (by simp [execOp, e67, go_sem]) rfl
            · intro ρ wx hE hx hd
              replace hE := Ext.undrew hE
              have e68 : ρ (.tmp 68) = .pointer (some ⟨b, 0, none⟩) := hd.1
              exact gives_val (G := fun vv _ => vv = .pointer (some ⟨b, 1, none⟩)) (v := .pointer (some ⟨b, 1, none⟩)) (by simp [execOp, e68, go_sem]) rfl
            · intro ρ wx hE hx hd
              replace hE := Ext.undrew hE
              have e69 : ρ (.tmp 69) = .pointer (some ⟨b, 1, none⟩) := hd.1
              have hcl := ext_cell hE HC6.out
              exact gives_val (G := fun vv _ => vv = .slice (some ⟨g', 0, none⟩) M c2) (v := .slice (some ⟨g', 0, none⟩) M c2) (by simp [execOp, e69, hcl, go_sem]) rfl
            · intro ρ wx hE hx hd
              replace hE := Ext.undrew hE
              have e71 : ρ (.tmp 71) = .int .i64 (k : Int) := hd.1
              have hk : ∀ v, ρ (.const v) = v := fun v => (hx (.const v) (by simp)).trans rfl
              exact gives_val (G := fun vv _ => vv = .int .i64 (j : Int)) (v := .int .i64 (j : Int)) (by simp [execOp, e71, hk, HW1.out, go_sem]) rfl
            · intro ρ wx hE hx hd
              replace hE := Ext.undrew hE
              have e5 : ρ (.tmp 5) = .pointer (some ⟨q, 0, none⟩) := hx (.tmp 5) (by simp)
              have l0 := ext_cell hE (blk_cell HQ6.out 0); have l1 := ext_cell hE (blk_cell HQ6.out 1); have l2 := ext_cell hE (blk_cell HQ6.out 2); exact gives_val (G := fun vv _ => vv = .agg #[.string SF, .slice Bf nf cf, .int .i64 f.sy]) (v := .agg #[.string SF, .slice Bf nf cf, .int .i64 f.sy]) (by simp [execOp, e5, l0, l1, l2, go_sem]) rfl
            · intro ρ wx hE hx hd
              replace hE := Ext.undrew hE
              have e70 : ρ (.tmp 70) = .slice (some ⟨g', 0, none⟩) M c2 := hd.1
              have e72 : ρ (.tmp 72) = .int .i64 (j : Int) := hd.2.1
              exact gives_val (G := fun vv _ => vv = .pointer (some ⟨g', j * 3, none⟩)) (v := .pointer (some ⟨g', j * 3, none⟩)) (by simp [execOp, e70, e72, go_sem, hji]) rfl
          intro wx hE
          refine fun v67 (e67 : v67 = .pointer (some ⟨b, 0, none⟩)) => ?_
          refine fun v68 (e68 : v68 = .pointer (some ⟨b, 0, none⟩)) => ?_
          refine fun v69 (e69 : v69 = .pointer (some ⟨b, 1, none⟩)) => ?_
          refine fun v70 (e70 : v70 = .slice (some ⟨g', 0, none⟩) M c2) => ?_
          refine fun v71 (e71 : v71 = .int .i64 (k : Int)) => ?_
          refine fun v72 (e72 : v72 = .int .i64 (j : Int)) => ?_
          refine fun v73 (e73 : v73 = .agg #[.string SF, .slice Bf nf cf, .int .i64 f.sy]) => ?_
          refine fun v74 (e74 : v74 = .pointer (some ⟨g', j * 3, none⟩)) => ?_
          subst e67 e68 e69 e70 e71 e72 e73 e74
          refine rest_nil ?_
          simp only [List.drop_succ_cons, List.drop_zero, Act.put, List.setIfInBounds_toArray, List.set_cons_zero, List.set_cons_succ]
          have HRZ := Lib.hid (HR6.out.below hE)
          have HVZ : Hid (View Rp.u8 wx (fun i => FF i ∧ i ≠ g') f.b (.slice Bf nf cf)) := Lib.hid (HVF6.out.below hE)
          obtain ⟨hr8, hk8⟩ := rset_e HRZ.out hFg j (by simp; have := HKJ.out; have := HJ.out; omega) f SF HSF.out (.slice Bf nf cf) HVZ.out
          obtain ⟨w8, hw8⟩ : ∃ w8, (((wx.setCell ⟨g', j * 3, none⟩ (.string SF)).setCell ⟨g', j * 3 + 1, none⟩ (.slice Bf nf cf)).setCell ⟨g', j * 3 + 2, none⟩ (.int .i64 f.sy)) = w8 := ⟨_, rfl⟩
          rw [hw8] at hr8 hk8
          have hgj : ({ dk with fs := (A ++ y :: f :: Y).set k y } : Dk).fs[j]? = some y := by
            show ((A ++ y :: f :: Y).set k y)[j]? = some y
            rw [List.getElem?_set_ne (by have := HKJ.out; omega)]; exact HGJ.out
          obtain ⟨gg, cc, Bk, ck, hlw, _, hgw, _, _, x0, x1, x2, _, _, hfw, _⟩ := rf_at HRZ.out j y hgj
          obtain ⟨hgg, hlm, hlc⟩ := Value.slice.inj hlw
          cases hgg
          have x3 := hfw (j * 3); have x4 := hfw (j * 3 + 1); have x5 := hfw (j * 3 + 2)
          have HR8 : Hid (RIn w8 FF b { dk with fs := A ++ f :: y :: Y } (.slice (some ⟨g', 0, none⟩) M c2) last) := Lib.hid (by
            have h9 : ((A ++ y :: f :: Y).set k y).set j f = A ++ f :: y :: Y := by rw [HKJ.out, ← HJ.out]; exact swap_mid A Y y f
            have := hr8
            rw [← h9]; exact this)
          have HK8 : Hid (Keep (fun j => (F j ∨ w.heap.size ≤ j) ∨ j = b) wc w8) := Lib.hid (HKR.out.trans ((Keep.old (F := fun j => (F j ∨ w.heap.size ≤ j) ∨ j = b) (HE5.out.trans HEA.out)).trans ((HK6.out.mono (G := fun j => (F j ∨ w.heap.size ≤ j) ∨ j = b) fun _ _ e => .inl (e ▸ hgo)).trans ((Keep.old hE).trans hk8 fun _ _ e => .inl (e ▸ hgo)) fun _ _ h => h) fun _ _ h => h) fun _ _ h => h)
          have HW8 := Lib.hid hw8
          clear hlm hlc hlw hr8 hk8 hw8 hfw hgj hE
          go_wp2_with fail
          rw [HW8.out]
          go_roundw
          case rel => exact ⟨A, y :: Y, by rw [HJ.out]; congr 1; have := HKJ.out; omega, by rw [← HXY.out, HAY.out]; simp, fun z hz => by
            rcases List.mem_cons.1 hz with rfl | hz
            · exact hfy
            · exact HGT.out z hz, HR8.out, HK8.out⟩
          case measure => simp [intOf]; omega
        · have hbl : Op.bytesLess SF.toList SY.toList = false := by rw [HBL.out]; exact decide_eq_false hfy
          refine wp_region_any (by kernel_rfl) ?_
          refine region_ext [(fun vv _ => vv = .int .i64 (k : Int)), (fun vv _ => vv = .bool true), (fun vv _ => vv = .bool true), (fun vv _ => vv = .pointer (some ⟨b, 0, none⟩)), (fun vv _ => vv = .pointer (some ⟨b, 0, none⟩)), (fun vv _ => vv = .pointer (some ⟨b, 1, none⟩)), (fun vv _ => vv = .slice (some ⟨g', 0, none⟩) M c2), (fun vv _ => vv = .int .i64 (k : Int)), (fun vv _ => vv = .pointer (some ⟨g', k * 3, none⟩)), (fun vv _ => vv = .pointer (some ⟨g', k * 3, none⟩)), (fun vv _ => vv = .string SF), (fun vv _ => vv = .pointer (some ⟨b, 0, none⟩)), (fun vv _ => vv = .pointer (some ⟨b, 0, none⟩)), (fun vv _ => vv = .pointer (some ⟨b, 1, none⟩)), (fun vv _ => vv = .slice (some ⟨g', 0, none⟩) M c2), (fun vv _ => vv = .int .i64 (k : Int)), (fun vv _ => vv = .int .i64 (j : Int)), (fun vv _ => vv = .pointer (some ⟨g', j * 3, none⟩)), (fun vv _ => vv = .pointer (some ⟨g', j * 3, none⟩)), (fun vv _ => vv = .string SY), (fun vv _ => vv = .bool false), (fun vv _ => vv = .bool false)]
            [[], [(0, 22)], [(1, 23)], [(2, 24)], [(2, 24), (3, 25)], [(2, 24), (4, 26)], [(2, 24), (5, 27)], [(2, 24)], [(2, 24), (6, 28), (7, 29)], [(2, 24), (8, 30)], [(2, 24), (9, 31)], [(2, 24)], [(2, 24), (11, 33)], [(2, 24), (12, 34)], [(2, 24), (13, 35)], [(2, 24)], [(2, 24), (15, 37)], [(2, 24), (14, 36), (16, 38)], [(2, 24), (17, 39)], [(2, 24), (18, 40)], [(2, 24), (10, 32), (19, 41)], [(2, 24), (20, 42)]]
            [none, none, none, some (24, true), some (24, true), some (24, true), some (24, true), some (24, true), some (24, true), some (24, true), some (24, true), some (24, true), some (24, true), some (24, true), some (24, true), some (24, true), some (24, true), some (24, true), some (24, true), some (24, true), some (24, true), none]
            [some 22, some 23, some 24, some 25, some 26, some 27, some 28, some 29, some 30, some 31, some 32, some 33, some 34, some 35, some 36, some 37, some 38, some 39, some 40, some 41, some 42, some 43] 22 (by kernel_rfl) (by kernel_rfl) (by kernel_rfl) rfl (by kernel_rfl) ?_ ?_ ?_
          · exact ⟨fun _ _ _ _ h => h, fun _ _ _ _ h => h, fun _ _ _ _ h => h, fun _ _ _ _ h => h, fun _ _ _ _ h => h, fun _ _ _ _ h => h, fun _ _ _ _ h => h, fun _ _ _ _ h => h, fun _ _ _ _ h => h, fun _ _ _ _ h => h, fun _ _ _ _ h => h, fun _ _ _ _ h => h, fun _ _ _ _ h => h, fun _ _ _ _ h => h, fun _ _ _ _ h => h, fun _ _ _ _ h => h, fun _ _ _ _ h => h, fun _ _ _ _ h => h, fun _ _ _ _ h => h, fun _ _ _ _ h => h, fun _ _ _ _ h => h, fun _ _ _ _ h => h, trivial⟩
          · refine ⟨fun ρ wx _ hx _ => gives_move (hx (.tmp 4) (by simp)), ?_, fun ρ wx _ _ hd => gives_move hd.1, ?_, ?_, ?_, ?_, ?_, ?_, ?_, ?_, ?_, ?_, ?_, ?_, ?_, ?_, ?_, ?_, ?_, ?_, ?_, trivial⟩
            · intro ρ wx hE hx hd
              replace hE := Ext.undrew hE
              have e22 : ρ (.tmp 22) = .int .i64 (k : Int) := hd.1
              have hk : ∀ v, ρ (.const v) = v := fun v => (hx (.const v) (by simp)).trans rfl
              exact gives_val (G := fun vv _ => vv = .bool true) (v := .bool true) (by simp [execOp, e22, hk, go_sem, hkp]; omega) rfl
            · intro ρ wx hE hx hd
              replace hE := Ext.undrew hE
              have e24 : ρ (.tmp 24) = .bool true := hd.1
              have e0 : ρ (.tmp 0) = .pointer (some ⟨b, 0, none⟩) := hx (.tmp 0) (by simp)
              refine .inl ⟨e24, ?_⟩
              exact gives_val (G := fun vv _ => vv = .pointer (some ⟨b, 0, none⟩)) (v := .pointer (some ⟨b, 0, none⟩)) (by simp [execOp, e24, e0, go_sem]) rfl
            · intro ρ wx hE hx hd
              replace hE := Ext.undrew hE
              have e24 : ρ (.tmp 24) = .bool true := hd.1
              have e25 : ρ (.tmp 25) = .pointer (some ⟨b, 0, none⟩) := hd.2.1
              refine .inl ⟨e24, ?_⟩
              exact gives_val (G := fun vv _ => vv = .pointer (some ⟨b, 0, none⟩)) (v := .pointer (some ⟨b, 0, none⟩)) (by simp [execOp, e24, e25, go_sem]) rfl
            · intro ρ wx hE hx hd
              replace hE := Ext.undrew hE
              have e24 : ρ (.tmp 24) = .bool true := hd.1
              have e26 : ρ (.tmp 26) = .pointer (some ⟨b, 0, none⟩) := hd.2.1
              refine .inl ⟨e24, ?_⟩
              exact gives_val (G := fun vv _ => vv = .pointer (some ⟨b, 1, none⟩)) (v := .pointer (some ⟨b, 1, none⟩)) (by simp [execOp, e24, e26, go_sem]) rfl
            · intro ρ wx hE hx hd
              replace hE := Ext.undrew hE
              have e24 : ρ (.tmp 24) = .bool true := hd.1
              have e27 : ρ (.tmp 27) = .pointer (some ⟨b, 1, none⟩) := hd.2.1
              refine .inl ⟨e24, ?_⟩
              have hcl := ext_cell hE HC1.out
              exact gives_val (G := fun vv _ => vv = .slice (some ⟨g', 0, none⟩) M c2) (v := .slice (some ⟨g', 0, none⟩) M c2) (by simp [execOp, e24, e27, hcl, go_sem]) rfl
            · intro ρ wx hE hx hd
              replace hE := Ext.undrew hE
              have e24 : ρ (.tmp 24) = .bool true := hd.1
              have e4 : ρ (.tmp 4) = .int .i64 (k : Int) := hx (.tmp 4) (by simp)
              refine .inl ⟨e24, ?_⟩
              exact gives_val (G := fun vv _ => vv = .int .i64 (k : Int)) (v := .int .i64 (k : Int)) (by simp [execOp, e24, e4, go_sem]) rfl
            · intro ρ wx hE hx hd
              replace hE := Ext.undrew hE
              have e24 : ρ (.tmp 24) = .bool true := hd.1
              have e28 : ρ (.tmp 28) = .slice (some ⟨g', 0, none⟩) M c2 := hd.2.1
              have e29 : ρ (.tmp 29) = .int .i64 (k : Int) := hd.2.2.1
              refine .inl ⟨e24, ?_⟩
              exact gives_val (G := fun vv _ => vv = .pointer (some ⟨g', k * 3, none⟩)) (v := .pointer (some ⟨g', k * 3, none⟩)) (by simp [execOp, e28, e29, go_sem, hki]) rfl
            · intro ρ wx hE hx hd
              replace hE := Ext.undrew hE
              have e24 : ρ (.tmp 24) = .bool true := hd.1
              have e30 : ρ (.tmp 30) = .pointer (some ⟨g', k * 3, none⟩) := hd.2.1
              refine .inl ⟨e24, ?_⟩
              exact gives_val (G := fun vv _ => vv = .pointer (some ⟨g', k * 3, none⟩)) (v := .pointer (some ⟨g', k * 3, none⟩)) (by simp [execOp, e24, e30, go_sem]) rfl
            · intro ρ wx hE hx hd
              replace hE := Ext.undrew hE
              have e24 : ρ (.tmp 24) = .bool true := hd.1
              have e31 : ρ (.tmp 31) = .pointer (some ⟨g', k * 3, none⟩) := hd.2.1
              refine .inl ⟨e24, ?_⟩
              have hcl := ext_cell hE HE0.out
              exact gives_val (G := fun vv _ => vv = .string SF) (v := .string SF) (by simp [execOp, e24, e31, hcl, go_sem]) rfl
            · intro ρ wx hE hx hd
              replace hE := Ext.undrew hE
              have e24 : ρ (.tmp 24) = .bool true := hd.1
              have e0 : ρ (.tmp 0) = .pointer (some ⟨b, 0, none⟩) := hx (.tmp 0) (by simp)
              refine .inl ⟨e24, ?_⟩
              exact gives_val (G := fun vv _ => vv = .pointer (some ⟨b, 0, none⟩)) (v := .pointer (some ⟨b, 0, none⟩)) (by simp [execOp, e24, e0, go_sem]) rfl
            · intro ρ wx hE hx hd
              replace hE := Ext.undrew hE
              have e24 : ρ (.tmp 24) = .bool true := hd.1
              have e33 : ρ (.tmp 33) = .pointer (some ⟨b, 0, none⟩) := hd.2.1
              refine .inl ⟨e24, ?_⟩
              exact gives_val (G := fun vv _ => vv = .pointer (some ⟨b, 0, none⟩)) (v := .pointer (some ⟨b, 0, none⟩)) (by simp [execOp, e24, e33, go_sem]) rfl
            · intro ρ wx hE hx hd
              replace hE := Ext.undrew hE
              have e24 : ρ (.tmp 24) = .bool true := hd.1
              have e34 : ρ (.tmp 34) = .pointer (some ⟨b, 0, none⟩) := hd.2.1
              refine .inl ⟨e24, ?_⟩
              exact gives_val (G := fun vv _ => vv = .pointer (some ⟨b, 1, none⟩)) (v := .pointer (some ⟨b, 1, none⟩)) (by simp [execOp, e24, e34, go_sem]) rfl
            · intro ρ wx hE hx hd
              replace hE := Ext.undrew hE
              have e24 : ρ (.tmp 24) = .bool true := hd.1
              have e35 : ρ (.tmp 35) = .pointer (some ⟨b, 1, none⟩) := hd.2.1
              refine .inl ⟨e24, ?_⟩
              have hcl := ext_cell hE HC1.out
              exact gives_val (G := fun vv _ => vv = .slice (some ⟨g', 0, none⟩) M c2) (v := .slice (some ⟨g', 0, none⟩) M c2) (by simp [execOp, e24, e35, hcl, go_sem]) rfl
            · intro ρ wx hE hx hd
              replace hE := Ext.undrew hE
              have e24 : ρ (.tmp 24) = .bool true := hd.1
              have e4 : ρ (.tmp 4) = .int .i64 (k : Int) := hx (.tmp 4) (by simp)
              refine .inl ⟨e24, ?_⟩
              exact gives_val (G := fun vv _ => vv = .int .i64 (k : Int)) (v := .int .i64 (k : Int)) (by simp [execOp, e24, e4, go_sem]) rfl
            · intro ρ wx hE hx hd
              replace hE := Ext.undrew hE
              have e24 : ρ (.tmp 24) = .bool true := hd.1
              have e37 : ρ (.tmp 37) = .int .i64 (k : Int) := hd.2.1
              have hk : ∀ v, ρ (.const v) = v := fun v => (hx (.const v) (by simp)).trans rfl
              refine .inl ⟨e24, ?_⟩
              exact gives_val (G := fun vv _ => vv = .int .i64 (j : Int)) (v := .int .i64 (j : Int)) (by simp [execOp, e37, hk, HW1.out, go_sem]) rfl
            · intro ρ wx hE hx hd
              replace hE := Ext.undrew hE
              have e24 : ρ (.tmp 24) = .bool true := hd.1
              have e36 : ρ (.tmp 36) = .slice (some ⟨g', 0, none⟩) M c2 := hd.2.1
              have e38 : ρ (.tmp 38) = .int .i64 (j : Int) := hd.2.2.1
              refine .inl ⟨e24, ?_⟩
              exact gives_val (G := fun vv _ => vv = .pointer (some ⟨g', j * 3, none⟩)) (v := .pointer (some ⟨g', j * 3, none⟩)) (by simp [execOp, e36, e38, go_sem, hji]) rfl
            · intro ρ wx hE hx hd
              replace hE := Ext.undrew hE
              have e24 : ρ (.tmp 24) = .bool true := hd.1
              have e39 : ρ (.tmp 39) = .pointer (some ⟨g', j * 3, none⟩) := hd.2.1
              refine .inl ⟨e24, ?_⟩
              exact gives_val (G := fun vv _ => vv = .pointer (some ⟨g', j * 3, none⟩)) (v := .pointer (some ⟨g', j * 3, none⟩)) (by simp [execOp, e24, e39, go_sem]) rfl
            · intro ρ wx hE hx hd
              replace hE := Ext.undrew hE
              have e24 : ρ (.tmp 24) = .bool true := hd.1
              have e40 : ρ (.tmp 40) = .pointer (some ⟨g', j * 3, none⟩) := hd.2.1
              refine .inl ⟨e24, ?_⟩
              have hcl := ext_cell hE HD0.out
              exact gives_val (G := fun vv _ => vv = .string SY) (v := .string SY) (by simp [execOp, e24, e40, hcl, go_sem]) rfl
            · intro ρ wx hE hx hd
              replace hE := Ext.undrew hE
              have e24 : ρ (.tmp 24) = .bool true := hd.1
              have e32 : ρ (.tmp 32) = .string SF := hd.2.1
              have e41 : ρ (.tmp 41) = .string SY := hd.2.2.1
              refine .inl ⟨e24, ?_⟩
              exact gives_val (G := fun vv _ => vv = .bool false) (v := .bool false) (by simp [execOp, e32, e41, go_sem, hbl]) rfl
            · intro ρ wx hE hx hd
              replace hE := Ext.undrew hE
              have e24 : ρ (.tmp 24) = .bool true := hd.1
              have e42 : ρ (.tmp 42) = .bool false := hd.2.1
              have hk : ∀ v, ρ (.const v) = v := fun v => (hx (.const v) (by simp)).trans rfl
              exact gives_val (G := fun vv _ => vv = .bool false) (v := .bool false) (by simp [execOp, e24, e42, hk, go_sem]) rfl
          intro wx hE
          refine fun v22 (e22 : v22 = .int .i64 (k : Int)) => ?_
          refine fun v23 (e23 : v23 = .bool true) => ?_
          refine fun v24 (e24 : v24 = .bool true) => ?_
          refine fun v25 (e25 : v25 = .pointer (some ⟨b, 0, none⟩)) => ?_
          refine fun v26 (e26 : v26 = .pointer (some ⟨b, 0, none⟩)) => ?_
          refine fun v27 (e27 : v27 = .pointer (some ⟨b, 1, none⟩)) => ?_
          refine fun v28 (e28 : v28 = .slice (some ⟨g', 0, none⟩) M c2) => ?_
          refine fun v29 (e29 : v29 = .int .i64 (k : Int)) => ?_
          refine fun v30 (e30 : v30 = .pointer (some ⟨g', k * 3, none⟩)) => ?_
          refine fun v31 (e31 : v31 = .pointer (some ⟨g', k * 3, none⟩)) => ?_
          refine fun v32 (e32 : v32 = .string SF) => ?_
          refine fun v33 (e33 : v33 = .pointer (some ⟨b, 0, none⟩)) => ?_
          refine fun v34 (e34 : v34 = .pointer (some ⟨b, 0, none⟩)) => ?_
          refine fun v35 (e35 : v35 = .pointer (some ⟨b, 1, none⟩)) => ?_
          refine fun v36 (e36 : v36 = .slice (some ⟨g', 0, none⟩) M c2) => ?_
          refine fun v37 (e37 : v37 = .int .i64 (k : Int)) => ?_
          refine fun v38 (e38 : v38 = .int .i64 (j : Int)) => ?_
          refine fun v39 (e39 : v39 = .pointer (some ⟨g', j * 3, none⟩)) => ?_
          refine fun v40 (e40 : v40 = .pointer (some ⟨g', j * 3, none⟩)) => ?_
          refine fun v41 (e41 : v41 = .string SY) => ?_
          refine fun v42 (e42 : v42 = .bool false) => ?_
          refine fun v43 (e43 : v43 = .bool false) => ?_
          subst e22 e23 e24 e25 e26 e27 e28 e29 e30 e31 e32 e33 e34 e35 e36 e37 e38 e39 e40 e41 e42 e43
          refine rest_nil ?_
          refine wpList_nil ?_
          simp only [Exit.then, Act.put, List.setIfInBounds_toArray, List.set_cons_zero, List.set_cons_succ]
          obtain ⟨he1, he2⟩ := HEND.out (HFIN.out (.inr ⟨A, y, HAY.out, hfy⟩))
          have HEE1 := Lib.hid he1; have HEE2 := Lib.hid he2
          clear he1 he2
          go_wp2_with fail
          obtain ⟨lv3, last3, h3⟩ := HEE1.out
          exact bodyPost_end (v := .tuple #[]) (by simp [results, Try.results59]) rfl (hR _ _ ⟨rfl, ⟨lv3, last3, h3.below hE⟩, HEE2.out.trans (Keep.old hE) fun _ _ h => h⟩)
end
end Go.Proofs.Ytlfcbhagbdonhaa.Asc
