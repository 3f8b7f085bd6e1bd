/-
  Contract: a reader's header.
  Lengths within the rows' own reach; the library's MaxLen is a number.
-/
import Derived.Test.YtilpaopkhghicaaDoorAnC
import Derived.Test.YtilpaopkhghicaaDoorReg
namespace Go.Proofs.YtilpaopkhghicaaDoor.Asc
open Go Go.RowKit Go.Proofs.YtilpaopkhghicaaDoor.Pb

theorem infoF : (Tryd.prog.info? 42).map (fun i => (i.zero, i.size, i.bytes)) = some (some (.agg #[.string ByteArray.empty, .string ByteArray.empty]), 2, 32) := by kernel_rfl
theorem fl_rep (w : World) (x : Fd) (S T : ByteArray) (hS : toL S = x.1) (hT : toL T = x.2) : fld.rep w (fun _ => False) x [.string S, .string T] := by
  refine ⟨[_], [_], rfl, ?_, ?_⟩
  · show [Value.string S] = [Value.string (ofL x.1)]; rw [← hS, ofL_toL]
  · show [Value.string T] = [Value.string (ofL x.2)]; rw [← hT, ofL_toL]
theorem _root_.Go.Proofs.YtilpaopkhghicaaDoor.Pb.Own.fields {e : TypeId} {w : World} {F F' : Nat → Prop} {xs : List Fd} {v : Value} (h : Own fld e w F xs v) (hF : ∀ k, v.ownBlock = some k → F' k) : Own fld e w F' xs v := by
  obtain ⟨cells, a1, _, a3⟩ := h
  exact ⟨cells, a1, hF, a3⟩
section
variable {P : Program} {ops : Array Oper} {a : Act} {w : World} {K : Act → World → Prop} {Q : Exit → Act → World → Prop} {E : Prop}
/-- one is appended, in any world in which it lies in a block -/
theorem step_append1_gen {α : Type} {r : Rp α} {F : Nat → Prop} {xs : List α} {v : Value} {s x : Operand} {t e : TypeId} {z : Value} {bytes : Nat} {y : α} {d : Option Tmp} {ty : TypeId} {pos : String} {af : Array Edge}
    (ht : P.underlying t = some (.slice e)) (hinfo : (P.info? e).map (fun i => (i.zero, i.size, i.bytes)) = some (some z, r.sz, bytes)) (hzs : z.cells.size = r.sz) (hsz : 0 < r.sz)
    (hown : Own r e w F xs v) (hs : a.eval s = v) {k0 : Nat} {cs : Array Value} {tt : TypeId} {fz : Nat × Nat} (hx : a.eval x = .slice (some ⟨k0, 0, none⟩) 1 1) (hblk : w.heap[k0]? = some (.cells cs tt fz)) {G : Nat → Prop} (hy : r.rep w G y cs.toList) (hG : ∀ k, G k → some k ≠ v.ownBlock)
    (h63 : xs.length < 1099511627776) (hb : bytes ≤ 100)
    (h : ∀ v' w', Own r e w' (fun k => F k ∨ G k ∨ w.heap.size ≤ k) (xs ++ [y]) v' → Keep (fun k => some k = v.ownBlock) w w' → (v'.ownBlock = v.ownBlock ∨ ∃ k, v'.ownBlock = some k ∧ w.heap.size ≤ k) → K (a.put d v') w') :
    if Region.wanted ⟨d, .call ⟨.builtin .append, #[s, x], #[t, t]⟩, ty, pos, af, none⟩ (yielded ops a.tmps) = true then Oper.wp P ⟨d, .call ⟨.builtin .append, #[s, x], #[t, t]⟩, ty, pos, af, none⟩ a w K Q else E := by
  refine step_wanted rfl ?_
  have hat : At w k0 0 cs.toList := fun j u hu => by
    rw [blk_cell hblk]; simpa using hu
  have hmul : (xs.length + [y].length) * bytes ≤ 140737488355328 := by
    have : (xs.length + 1) * bytes ≤ 1099511627776 * 100 := Nat.mul_le_mul (by omega) hb
    simp only [List.length_cons, List.length_nil, Nat.zero_add]; omega
  obtain ⟨v', w', hr, ho, hk, hn, hb'⟩ := run_append_rows (ty := ty) (c := 1) ht hinfo hzs hsz hown hat (Elems.one hy) (fun k hk => hG k hk) (by simp only [List.length_cons, List.length_nil]; unfold maxLen; omega) hmul
  unfold Oper.wp
  rw [exec_append (v := v') (w' := w') (by simpa [hs, hx] using hr)]
  exact h v' w' ho hk hb'
end

theorem libcut_len (s sep : List UInt8) : (Lib.cut s sep).1.length ≤ s.length ∧ (Lib.cut s sep).2.1.length ≤ s.length := by
  unfold Lib.cut
  split
  · exact ⟨by dsimp only; rw [List.length_take]; omega, by dsimp only; rw [List.length_drop]; omega⟩
  · exact ⟨Nat.le_refl _, by simp⟩

/-- one more header: the row is a new one -/
theorem RdIn.newF {w w' : World} {S : Nat → Prop} {b : Nat} {st st' : QS} {L F F' : Value} {mb : Nat} (h : RdIn w S b st L F mb) (hk : Keep (fun k => k = b ∨ F.ownBlock = some k) w w') (hb : w'.heap[b]? = some (.cells (rcells st' L F' mb).toArray 61 (0, 0)))
    (hl : Own fld 42 w' (fun k => F'.ownBlock = some k) st'.q.hds F') (hL : ∀ k, F'.ownBlock = some k → F.ownBlock = some k ∨ w.heap.size ≤ k) (e1 : st'.met = st.met) :
    RdIn w' (fun k => S k ∨ w.heap.size ≤ k) b st' L F' mb := by
  have hlt := h.lt
  have hmb := h.map.lt
  refine ⟨hb, hl, e1 ▸ h.map.keep hk fun hG => ?_, fun k hk' => (hL k hk').imp (h.inF k) id, .inl h.inM, ?_, fun e => ?_⟩
  · rcases hG with e | e
    · exact h.out (e ▸ h.inM)
    · exact h.fm e
  · rintro (h1 | h1)
    · exact h.out h1
    · omega
  · rcases hL mb e with h1 | h1
    · exact h.fm h1
    · omega

set_option maxHeartbeats 4000000 in
set_option maxRecDepth 20000 in
theorem rfield_any (w : World) (S : Nat → Prop) (b : Nat) (st : QS) (L : Value) (h : RdAt w S b st L) (hl : st.q.hds.length ≤ 1000000) (s : ByteArray) (hs : s.size ≤ 1000000) (m : Int) (hm : MaxLen m w) :
    Calls Tryd.prog 42 #[.pointer (some ⟨b, 0, none⟩), .string s] w fun e w' => e = .returned (.tuple #[]) ∧
      RdAt w' (fun k => S k ∨ w.heap.size ≤ k) b (headN st (toL s)) L ∧ Keep (fun k => S k ∨ k = b) w w' := by
  refine calls_gen fun R hR => ?_
  obtain ⟨F, mb, h⟩ := h
  have HLB : Hid (b < w.heap.size) := Lib.hid h.lt
  obtain ⟨FA, fn, rfl, hfn⟩ := h.hds.slice
  have H := Lib.hid h
  clear h
  go_enter Tryd.func42, Tryd.ntmps42
  go_wp2_with fail
  refine (Tryd.strings_Cut s ⟨#[58, 32]⟩ m w (by omega) hm).mono ?_
  rintro e w1 ⟨rfl, n1, hn1⟩
  have hb1 : Below w.heap.size w w1 := hn1 ▸ (Below.refl _ _).drewN n1
  have HB1 := Lib.hid hb1
  obtain ⟨⟨n, v, ok⟩, hc⟩ : ∃ c, Lib.cut (toL s) [58, 32] = c := ⟨_, rfl⟩
  have hc' : Lib.cut s.data.toList [58, 32] = (n, v, ok) := hc
  have hcl := libcut_len (toL s) [58, 32]
  rw [hc, toL_len] at hcl
  rw [show (⟨#[58, 32]⟩ : ByteArray).data.toList = [58, 32] from rfl, hc']
  have HHN : Hid (headN st (toL s) = { st with q := { st.q with hds := st.q.hds ++ [(n, v)] }, bad := st.bad || (!ok || v.isEmpty || !valid n v) }) := Lib.hid (by unfold headN; rw [hc])
  rw [HHN.out] at hR
  clear hc hc' hn1 hb1 HHN
  dsimp only at hcl ⊢
  obtain ⟨N, hN⟩ : ∃ N, ofL n = N := ⟨_, rfl⟩
  obtain ⟨V, hV⟩ : ∃ V, ofL v = V := ⟨_, rfl⟩
  have hns : N.size ≤ 1000000 := by rw [← hN, ofL_size]; omega
  have hvs : V.size ≤ 1000000 := by rw [← hV, ofL_size]; omega
  have HNV : Hid (toL N = n ∧ toL V = v) := Lib.hid (by rw [← hN, ← hV, toL_ofL, toL_ofL]; exact ⟨rfl, rfl⟩)
  rw [show (⟨n.toArray⟩ : ByteArray) = N from hN, show (⟨v.toArray⟩ : ByteArray) = V from hV]
  clear hN hV hcl
  have hve : (V.toList == []) = v.isEmpty := by
    rw [toList_toL, HNV.out.2]; cases v <;> rfl
  obtain ⟨w3, hw3⟩ : ∃ w3, w1.alloc (.cells #[.string N, .string V] 42) = w3 := ⟨_, rfl⟩
  have HW3 := Lib.hid hw3
  have HB13 : Hid (Below w1.heap.size w1 w3) := Lib.hid (hw3 ▸ below_new w1 _)
  have HG3 : Hid (w3.heap[w1.heap.size]? = some (.cells #[.string N, .string V] 42 (0, 0))) := Lib.hid (hw3 ▸ blk_new w1 (.cells #[.string N, .string V] 42))
  have HB3 : Hid (Below w.heap.size w w3) := Lib.hid (HB1.out.trans (HB13.out.mono HB1.out.size))
  clear hw3
  go_upto_region 2 with fail
  rw [HW3.out]
  have HP3 := Lib.hid (H.out.below HB3.out)
  have hg3 := HG3.out
  have x0 := blk_cell hg3 0
  have x1 := blk_cell hg3 1
  have c1 := blk_cell HP3.out.blk 1
  have f1 := blk_free HP3.out.blk 1
  simp only [rcells, List.getElem?_toArray, List.getElem?_cons_zero, List.getElem?_cons_succ] at x0 x1 c1
  have hltx := blk_lt hg3
  have hltb := HP3.out.lt
  clear hg3
  obtain ⟨bd, hbd⟩ : ∃ x, st.bad = x := ⟨_, rfl⟩
  have HBD := Lib.hid hbd
  rw [hbd] at c1 hR
  clear hbd
  obtain ⟨ve, hvee⟩ : ∃ x, v.isEmpty = x := ⟨_, rfl⟩
  rw [hvee] at hve hR
  clear hvee
  have HVC : Hid (Calls Tryd.prog 51 #[.agg #[.string N, .string V]] w3 fun e w' => e = .returned (.bool (valid n v)) ∧ Below w3.heap.size w3 w') := Lib.hid (by
    have := valid_any N V w3 hns hvs; rw [HNV.out.1, HNV.out.2] at this; exact this)
  obtain ⟨va, hva⟩ : ∃ x, valid n v = x := ⟨_, rfl⟩
  rw [hva] at HVC hR
  clear hva
  go_cut [] (fun wc => ∃ w5, Below w3.heap.size w3 w5 ∧ wc = w5.setCell ⟨b, 1, none⟩ (.bool (bd || (!ok || ve || !va))))
  case first =>
    have key : ∀ x, x = (bd || (!ok || ve || !va)) → ∃ w5, Below w3.heap.size w3 w5 ∧ w3.setCell ⟨b, 1, none⟩ (.bool x) = w5.setCell ⟨b, 1, none⟩ (.bool (bd || (!ok || ve || !va))) := fun x hx => ⟨w3, Below.refl _ _, by rw [hx]⟩
    have HK := Lib.hid key
    clear key
    cases bd
    · cases ok
      · go_wp2_with fail
        go_meet
        exact HK.out _ (by simp)
      · cases ve
        · go_wp2_with fail
          refine HVC.out.mono ?_
          rintro e w5 ⟨rfl, hb5⟩
          have c1' := (hb5.cell (p := ⟨b, 1, none⟩) hltb).trans c1
          have f1' := blk_free ((hb5.block b hltb).trans HP3.out.blk) 1
          have hl5 := Nat.lt_of_lt_of_le hltb hb5.size
          have HB5 := Lib.hid hb5
          clear hb5 HK
          cases va
          · go_wp2_with fail
            go_meet
            exact ⟨w5, HB5.out, rfl⟩
          · go_wp2_with fail
            go_meet
            exact ⟨w5, HB5.out, rfl⟩
        · go_wp2_with fail
          go_meet
          exact HK.out _ (by simp)
    · go_wp2_with fail
      go_meet
      exact HK.out _ (by simp)
  case rest =>
    obtain ⟨w5, hb5, hwc⟩ := hcut
    obtain ⟨bx, hbx⟩ : ∃ x, (bd || (!ok || ve || !va)) = x := ⟨_, rfl⟩
    rw [hbx] at hwc hR
    have hP5 := HP3.out.below hb5
    have kc : Keep (fun k => k = b) w5 wc := hwc ▸ (Keep.refl (fun k => k = b) w5).set (p := ⟨b, 1, none⟩) rfl (.bool bx)
    have hPC : RdIn wc S b { st with bad := bx } L (.slice FA st.q.hds.length fn) mb := hP5.scal kc (hwc ▸ blk_set hP5.blk 1 (.bool bx)) rfl rfl
    have hgc : wc.heap[w1.heap.size]? = some (.cells #[.string N, .string V] 42 (0, 0)) := kc.blk ((hb5.block _ hltx).trans HG3.out) (by have h1 := HLB.out; have h2 := HB1.out.size; omega)
    have hKC : Keep (fun k => S k ∨ k = b) w wc := ((Keep.old (F := fun k => S k ∨ k = b) (HB3.out.trans (hb5.mono HB3.out.size))).trans kc fun i _ h => .inr h)
    have HPC := Lib.hid hPC; have HGC := Lib.hid hgc; have HKC := Lib.hid hKC
    have hws : w.heap.size ≤ wc.heap.size := hKC.size
    clear hwc hP5 kc hPC hgc hKC hb5 hbx c1 f1 x0 x1 hltx hltb hve
    obtain ⟨fls, hfls⟩ : ∃ l, st.q.hds = l := ⟨_, rfl⟩
    have HFL := Lib.hid hfls
    rw [hfls] at hl hfn HPC hR
    clear hfls
    have c9 := blk_cell HPC.out.blk 9
    have f9 := blk_free HPC.out.blk 9
    have y0 := blk_cell HGC.out 0
    have y1 := blk_cell HGC.out 1
    simp only [rcells, List.getElem?_toArray, List.getElem?_cons_zero, List.getElem?_cons_succ] at c9 y0 y1
    have hltb := HPC.out.lt
    have hltx := blk_lt HGC.out
    have HNF : Hid (¬ (Value.slice FA fls.length fn).ownBlock = some b) := Lib.hid (fun e => HPC.out.out (HPC.out.inF b e))
    have HKW : Hid (∀ W : World, Keep (fun _ => False) wc W → Own fld 42 W (fun k => (Value.slice FA fls.length fn).ownBlock = some k) fls (.slice FA fls.length fn)) := Lib.hid fun W hk => by
      have := HPC.out.hds; dsimp only at this; rw [HFL.out] at this; exact this.keep hk fun _ _ h => h
    go_upto_region 3 with fail
    go_region_law (first
      | (refine step_append1_gen (r := fld) (F := fun k => (Value.slice FA fls.length fn).ownBlock = some k) (G := fun _ => False) (k0 := wc.heap.size) (cs := #[.string N, .string V]) (y := (n, v)) Tryd.underlying23 infoF rfl (by decide) (HKW.out _ (by first | exact (Keep.alloc _ wc _).drew | exact (Keep.refl _ wc).drew.new _ | exact Keep.alloc _ wc _)) (by simp [Act.eval]) (by simp [Act.eval]) (blk_new wc _) (fl_rep _ _ _ _ HNV.out.1 HNV.out.2) (fun k h => h.elim) (by omega) (by decide) ?_
         intro v6 w6 ho6 hk6 hp6
         have HWK : Hid (∀ k, k < wc.heap.size → (some k ≠ (Value.slice FA fls.length fn).ownBlock) → w6.heap[k]? = wc.heap[k]?) := Lib.hid fun k hk hne => (hk6.block k (Nat.lt_of_lt_of_le hk (by simp)) hne).trans (by first | exact Below.heap_alloc _ _ _ hk | exact (Below.heap_alloc wc.drew _ _ hk))
         have HK6 : Hid (Keep (fun k => some k = (Value.slice FA fls.length fn).ownBlock) wc w6) := Lib.hid ⟨hk6.os, hk6.tape, hk6.output, Nat.le_trans (by simp) hk6.size, HWK.out⟩
         have HP6 : Hid (∀ k, v6.ownBlock = some k → (Value.slice FA fls.length fn).ownBlock = some k ∨ wc.heap.size ≤ k) := Lib.hid fun k hk => by
           rcases hp6 with h | ⟨j, h, hj⟩
           · exact .inl (h ▸ hk)
           · rw [h] at hk; cases hk; simp at hj; exact .inr (by omega)
         obtain ⟨zz, hzz⟩ : ∃ z, fls ++ [(n, v)] = z := ⟨_, rfl⟩
         rw [hzz] at ho6
         have HO6 := Lib.hid (ho6.fields (F' := fun k => v6.ownBlock = some k) fun k hk => hk)
         have HZZ := Lib.hid hzz
         clear hzz ho6 hk6 hp6 HWK
         obtain ⟨A6, n6, rfl, hn6⟩ := HO6.out.slice
         have HB6 := Lib.hid (HK6.out.blk HPC.out.blk (fun e => HNF.out e.symm))
         have g6 := blk_cell HB6.out 9
         have fg6 := blk_free HB6.out 9
         have hb6 := blk_lt HB6.out
         simp only [rcells, List.getElem?_toArray, List.getElem?_cons_zero, List.getElem?_cons_succ] at g6))
    all_goals
      go_wp2_with fail
      have kS := (Keep.refl (fun k => k = b) w6).set (p := ⟨b, 9, none⟩) rfl (.slice A6 zz.length n6)
      have bS := blk_set HB6.out 9 (.slice A6 zz.length n6)
      have hoS := HO6.out.keep kS (fun k hk e => by
        subst e
        rcases HP6.out k hk with h | h
        · exact HNF.out h
        · exact absurd (blk_lt HPC.out.blk) (by omega))
      have kF : Keep (fun k => k = b ∨ (Value.slice FA fls.length fn).ownBlock = some k) wc (w6.setCell ⟨b, 9, none⟩ (.slice A6 zz.length n6)) := (HK6.out.mono (fun _ _ h => .inr h.symm)).trans kS fun i _ h => .inl h
      have PF := Lib.hid (HPC.out.newF (st' := { st with q := { st.q with hds := fls ++ [(n, v)] }, bad := bx }) kF bS (by dsimp only; rw [HZZ.out]; exact hoS) HP6.out rfl)
      have HKF := Lib.hid (HKC.out.trans kF fun i hi h => by
        rcases h with h | h
        · exact .inr h
        · exact .inl (HPC.out.inF i h))
      clear kS bS hoS kF
      exact bodyPost_end (v := .tuple #[]) (by simp [results, Tryd.results42]) rfl (hR _ _ ⟨rfl, ⟨_, _, PF.out.mono (fun k _ h => h.imp id fun h => by omega) (fun h => by
        rcases h with h | h
        · exact HPC.out.out h
        · have := HLB.out; omega)⟩, HKF.out⟩)
end Go.Proofs.YtilpaopkhghicaaDoor.Asc
