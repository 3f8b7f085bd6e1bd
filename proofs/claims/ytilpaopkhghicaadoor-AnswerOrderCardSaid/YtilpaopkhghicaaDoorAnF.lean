/-
  Contract: a reader's line.
  Lengths within the rows' own reach; the library's MaxLen is a number.
-/
import Derived.Test.YtilpaopkhghicaaDoorAnE
namespace Go.Proofs.YtilpaopkhghicaaDoor.Asc
open Go Go.RowKit Go.Proofs.YtilpaopkhghicaaDoor.Pb

section
variable {P : Program} {ops : Array Oper} {rest : List Oper} {d : Option Tmp} {ty : TypeId} {pos : String} {af : Array Edge} {a : Act} {Q : Exit → Act → World → Prop} {w : World}
theorem stop_mapup {t : TypeId} {m x v : Operand} (h : Stopped (wpList P ops Q (⟨d, .mapUpdate t m x v, ty, pos, af, none⟩ :: rest) a w)) :
    wpList P ops Q (⟨d, .mapUpdate t m x v, ty, pos, af, none⟩ :: rest) a w := h.out
end
theorem cutB_le (c : UInt8) (l : List UInt8) : (cutAt c l).1.length ≤ l.length ∧ (cutAt c l).2.length ≤ l.length := by
  unfold cutAt
  refine ⟨(List.takeWhile_sublist _).length_le, ?_⟩
  dsimp only
  rw [List.length_drop]
  have := (List.dropWhile_sublist (· != c) (l := l)).length_le
  omega
theorem met_bad (met : List (List UInt8)) (s : List UInt8) : met.contains s = decide (0 < met.count s) := by
  rw [Bool.eq_iff_iff, decide_eq_true_iff, List.count_pos_iff, List.contains_iff_mem]
section
variable {st : QS} {x r : List UInt8} {ok : Bool}
theorem wn0  (h0 : (x == wUrl) = true) : wordN st x r ok = { st with q := setQ 3 st.q r, bad := st.bad || (!ok || !graphic r) } := by
  unfold wordN; rw [if_pos h0]; rfl
theorem wn1 (h0 : (x == wUrl) = false) (h1 : (x == wDoc) = true) : wordN st x r ok = { st with q := setQ 2 st.q r, bad := st.bad || (!ok || !graphic r) } := by
  unfold wordN; rw [if_neg (by rw [h0]; decide), if_pos h1]; rfl
theorem wn2 (h0 : (x == wUrl) = false) (h1 : (x == wDoc) = false) (h2 : (x == wDest) = true) : wordN st x r ok = { st with q := setQ 4 st.q r, bad := st.bad || (!ok || !graphic r) } := by
  unfold wordN; rw [if_neg (by rw [h0]; decide), if_neg (by rw [h1]; decide), if_pos h2]; rfl
theorem wn3 (h0 : (x == wUrl) = false) (h1 : (x == wDoc) = false) (h2 : (x == wDest) = false) (h3 : (x == wMethod) = true) : wordN st x r ok = { st with q := setQ 5 st.q r, bad := st.bad || (!ok || !graphic r) } := by
  unfold wordN; rw [if_neg (by rw [h0]; decide), if_neg (by rw [h1]; decide), if_neg (by rw [h2]; decide), if_pos h3]; rfl
theorem wn4 (h0 : (x == wUrl) = false) (h1 : (x == wDoc) = false) (h2 : (x == wDest) = false) (h3 : (x == wMethod) = false) (h4 : (x == wCors) = true) : wordN st x r ok = { st with q := (if 6 = 6 then { st.q with cors := true } else { st.q with creds := true }), bad := st.bad || ok } := by
  unfold wordN; rw [if_neg (by rw [h0]; decide), if_neg (by rw [h1]; decide), if_neg (by rw [h2]; decide), if_neg (by rw [h3]; decide), if_pos h4]; rfl
theorem wn5 (h0 : (x == wUrl) = false) (h1 : (x == wDoc) = false) (h2 : (x == wDest) = false) (h3 : (x == wMethod) = false) (h4 : (x == wCors) = false) (h5 : (x == wCreds) = true) : wordN st x r ok = { st with q := (if 7 = 6 then { st.q with cors := true } else { st.q with creds := true }), bad := st.bad || ok } := by
  unfold wordN; rw [if_neg (by rw [h0]; decide), if_neg (by rw [h1]; decide), if_neg (by rw [h2]; decide), if_neg (by rw [h3]; decide), if_neg (by rw [h4]; decide), if_pos h5]; rfl
theorem wn6 (h0 : (x == wUrl) = false) (h1 : (x == wDoc) = false) (h2 : (x == wDest) = false) (h3 : (x == wMethod) = false) (h4 : (x == wCors) = false) (h5 : (x == wCreds) = false) (h6 : (x == wRedir) = true) : wordN st x r ok = { st with q := { st.q with redir := (number r 2).1 }, bad := st.bad || !(number r 2).2 } := by
  unfold wordN; rw [if_neg (by rw [h0]; decide), if_neg (by rw [h1]; decide), if_neg (by rw [h2]; decide), if_neg (by rw [h3]; decide), if_neg (by rw [h4]; decide), if_neg (by rw [h5]; decide), if_pos h6]
theorem wn7 (h0 : (x == wUrl) = false) (h1 : (x == wDoc) = false) (h2 : (x == wDest) = false) (h3 : (x == wMethod) = false) (h4 : (x == wCors) = false) (h5 : (x == wCreds) = false) (h6 : (x == wRedir) = false) (h7 : (x == wHeader) = true) : wordN st x r ok = headN st r := by
  unfold wordN; rw [if_neg (by rw [h0]; decide), if_neg (by rw [h1]; decide), if_neg (by rw [h2]; decide), if_neg (by rw [h3]; decide), if_neg (by rw [h4]; decide), if_neg (by rw [h5]; decide), if_neg (by rw [h6]; decide), if_pos h7]
theorem wn8 (h0 : (x == wUrl) = false) (h1 : (x == wDoc) = false) (h2 : (x == wDest) = false) (h3 : (x == wMethod) = false) (h4 : (x == wCors) = false) (h5 : (x == wCreds) = false) (h6 : (x == wRedir) = false) (h7 : (x == wHeader) = false) : wordN st x r ok = { st with bad := true } := by
  unfold wordN; rw [if_neg (by rw [h0]; decide), if_neg (by rw [h1]; decide), if_neg (by rw [h2]; decide), if_neg (by rw [h3]; decide), if_neg (by rw [h4]; decide), if_neg (by rw [h5]; decide), if_neg (by rw [h6]; decide), if_neg (by rw [h7]; decide)]
end

set_option maxHeartbeats 8000000 in
set_option maxRecDepth 20000 in
theorem line_any (w : World) (S : Nat → Prop) (b : Nat) (st : QS) (L : Value) (h : RdAt w S b st L) (hl : st.q.hds.length ≤ 1000000) (hml : st.met.length ≤ 100000) (s : ByteArray) (hs : s.size ≤ 1000000) (m : Int) (hm : MaxLen m w) (hsg : ¬ S 0) (hbg : 0 ≠ b) :
    Calls Tryd.prog 28 #[.pointer (some ⟨b, 0, none⟩), .string s] w fun e w' => e = .returned (.tuple #[]) ∧
      RdAt w' (fun k => S k ∨ w.heap.size ≤ k) b (lineQ st (toL s)) L ∧ Keep (fun k => S k ∨ k = b) w w' := by
  refine calls_gen fun R hR => ?_
  obtain ⟨F, mb, h⟩ := h
  have HLB : Hid (b < w.heap.size) := Lib.hid h.lt
  have HNS : Hid (¬ S b) := Lib.hid h.out
  have HM := Lib.hid hm; have HSG := Lib.hid hsg; have HBG := Lib.hid hbg
  have H := Lib.hid h
  clear h hsg hbg
  go_enter Tryd.func28, Tryd.ntmps28
  go_wp2_with fail
  refine (cutb_any s 32 m w hs hm).mono ?_
  rintro e w1 ⟨rfl, n1, hn1⟩
  have HB1 : Hid (Below w.heap.size w w1) := Lib.hid (hn1 ▸ (Below.refl _ _).drewN n1)
  have hcl := cutB_le 32 (toL s)
  rw [toL_len] at hcl
  obtain ⟨W, hW⟩ : ∃ X, ofL (cutAt 32 (toL s)).1 = X := ⟨_, rfl⟩
  obtain ⟨T, hT⟩ : ∃ X, ofL (cutAt 32 (toL s)).2 = X := ⟨_, rfl⟩
  obtain ⟨ok, hok⟩ : ∃ x, (toL s).contains 32 = x := ⟨_, rfl⟩
  have hws : W.size ≤ 1000000 := by rw [← hW, ofL_size]; omega
  have hts : T.size ≤ 1000000 := by rw [← hT, ofL_size]; omega
  have HLQ : Hid (lineQ st (toL s) = wordN (metN st (toL W)) (toL W) (toL T) ok) := Lib.hid (by unfold lineQ; rw [hok, ← hW, ← hT, toL_ofL, toL_ofL])
  rw [HLQ.out] at hR
  rw [hW, hT, hok]
  clear hn1 hW hT hok hcl hm HLQ
  go_upto_if 16 with fail
  go_cut [] (fun wc => RdAt wc S b (metN st (toL W)) L ∧ Keep (fun k => S k ∨ k = b) w wc)
  case first =>
    have H1 := Lib.hid (H.out.below HB1.out)
    cases hh : (W.toList == [104, 101, 97, 100, 101, 114]) with
    | true =>
      have e : metN st (toL W) = st := by
        unfold metN; rw [if_pos]
        rw [toList_toL] at hh
        exact hh
      have HE := Lib.hid e
      clear e
      go_wp2_with fail
      go_meet
      rw [HE.out]
      exact ⟨⟨F, mb, H1.out⟩, Keep.old HB1.out⟩
    | false =>
      obtain ⟨cn, hcn⟩ : ∃ n, st.met.count (toL W) = n := ⟨_, rfl⟩
      have hcl : cn ≤ 100000 := by rw [← hcn]; exact Nat.le_trans List.count_le_length hml
      have hlook := met_look H1.out.map W hws
      rw [hcn] at hlook
      have hmn : Hid (metN st (toL W) = { st with met := st.met ++ [toL W], bad := st.bad || decide (0 < cn) }) := Lib.hid (by
        unfold metN
        rw [if_neg (by rw [toList_toL] at hh; rw [show wHeader = [104, 101, 97, 100, 101, 114] from rfl, hh]; decide), met_bad, hcn])
      have c1 := blk_cell H1.out.blk 1
      have c10 := blk_cell H1.out.blk 10
      simp only [rcells, List.getElem?_toArray, List.getElem?_cons_zero, List.getElem?_cons_succ] at c1 c10
      have hltb := H1.out.lt
      have HCN := Lib.hid hcn
      clear hcn
      go_wp2_with (with_reducible (refine stop_mapup ?_))
      refine ⟨wp_met rfl _ _ _ rfl rfl H1.out.map hml W hws rfl (by rw [HCN.out]; rfl) ?_⟩
      intro w2 hmet2 hk2
      have hne : b ≠ mb := fun e => H1.out.out (e ▸ H1.out.inM)
      have hblk2 := hk2.blk H1.out.blk hne
      have c1' := blk_cell hblk2 1
      have c10' := blk_cell hblk2 10
      have f1' := blk_free hblk2 1
      simp only [rcells, List.getElem?_toArray, List.getElem?_cons_zero, List.getElem?_cons_succ] at c1' c10'
      have hltb2 := blk_lt hblk2
      have hlook2 := met_look hmet2 W hws
      have hcnt : (st.met ++ [toL W]).count (toL W) = cn + 1 := by rw [List.count_append, HCN.out]; simp
      rw [hcnt] at hlook2
      have hfin : ∀ x, x = (st.bad || decide (0 < cn)) → RdAt (w2.setCell ⟨b, 1, none⟩ (.bool x)) S b (metN st (toL W)) L ∧ Keep (fun k => S k ∨ k = b) w (w2.setCell ⟨b, 1, none⟩ (.bool x)) := fun x hx => by
        subst hx
        have k3 := (Keep.refl (fun k => k = b) w2).set (p := ⟨b, 1, none⟩) rfl (.bool (st.bad || decide (0 < cn)))
        have kall : Keep (fun k => S k ∨ k = b) w (w2.setCell ⟨b, 1, none⟩ (.bool (st.bad || decide (0 < cn)))) := ((Keep.old (F := fun k => S k ∨ k = b) HB1.out).trans hk2 fun i _ e => .inl (e ▸ H1.out.inM)).trans k3 fun i _ e => .inr e
        rw [hmn.out]
        refine ⟨⟨F, mb, blk_set hblk2 1 (.bool (st.bad || decide (0 < cn))), ?_, hmet2.keep k3 (fun e => hne e.symm), H1.out.inF, H1.out.inM, H1.out.out, H1.out.fm⟩, kall⟩
        exact (H1.out.hds.keep hk2 fun k hF e => H1.out.fm (e ▸ hF)).keep k3 fun k hF e => H1.out.out (e ▸ H1.out.inF k hF)
      have HF := Lib.hid hfin
      obtain ⟨bd, hbd⟩ : ∃ x, st.bad = x := ⟨_, rfl⟩
      rw [hbd] at c1' HF
      clear hfin hbd c1 c10 hlook hltb hblk2 hcnt hk2 hmet2
      cases bd
      · by_cases hc0 : (cn : Int) + 1 > 1
        · have HX : Hid (true = (false || decide (0 < cn))) := Lib.hid (by rw [Bool.false_or]; exact (decide_eq_true (by omega)).symm)
          have hc1 : ((cn + 1 : Nat) : Int) > 1 := by omega
          go_wp2_with fail
          go_meet
          exact HF.out _ HX.out
        · have HX : Hid (false = (false || decide (0 < cn))) := Lib.hid (by rw [Bool.false_or]; exact (decide_eq_false (by omega)).symm)
          have hc1 : ¬ ((cn + 1 : Nat) : Int) > 1 := by omega
          go_wp2_with fail
          go_meet
          exact HF.out _ HX.out
      · go_wp2_with fail
        go_meet
        exact HF.out _ rfl
  case rest =>
    obtain ⟨hrc, hkc⟩ := hcut
    have HRC := Lib.hid hrc; have HKC := Lib.hid hkc
    have HMC : Hid (MaxLen m wc) := Lib.hid (hkc.cell HM.out fun e => by
      rcases e with e | e
      · exact HSG.out e
      · exact HBG.out e)
    have hwz : w.heap.size ≤ wc.heap.size := hkc.size
    obtain ⟨sm, hsm⟩ : ∃ x, metN st (toL W) = x := ⟨_, rfl⟩
    have hhd : sm.q.hds.length ≤ 1000000 := by
      rw [← hsm]; unfold metN; split <;> exact hl
    rw [hsm] at HRC hR
    clear hrc hkc hsm
    have HEND : Hid (∀ (S' : Nat → Prop) (st' : QS) (w' : World), RdAt w' S' b st' L → (∀ k, S' k → S k ∨ w.heap.size ≤ k) → Keep (fun k => S k ∨ k = b) w w' → st' = wordN sm (toL W) (toL T) ok → Pb.Fin (R (.returned (.tuple #[])) w')) := Lib.hid fun S' st' w' hr hS hk he => by
      refine hR _ _ ⟨rfl, ?_, hk⟩
      rw [← he]
      exact hr.mono (fun k _ h => hS k h) (fun h => by
        rcases h with h | h
        · exact HNS.out h
        · have := HLB.out; omega)
    cases h0 : (W.toList == [117, 114, 108]) with
    | true =>
      have H0 : Hid ((toL W == wUrl) = true) := Lib.hid (by rw [← toList_toL]; exact h0)
      go_wp2_with fail
      refine (text_any 3 (by decide) wc S b sm L HRC.out T hts ok).mono ?_
      rintro e w5 ⟨rfl, hr5, hk5⟩
      go_wp2_with fail
      exact bodyPost_end (v := .tuple #[]) (by simp [results, Tryd.results28]) rfl (HEND.out _ _ _ hr5 (fun k h => .inl h) (HKC.out.trans hk5 fun i _ e => .inr e) ((wn0 H0.out).symm))
    | false =>
      have H0 : Hid ((toL W == wUrl) = false) := Lib.hid (by rw [← toList_toL]; exact h0)
      cases h1 : (W.toList == [100, 111, 99]) with
      | true =>
        have H1 : Hid ((toL W == wDoc) = true) := Lib.hid (by rw [← toList_toL]; exact h1)
        go_wp2_with fail
        refine (text_any 2 (by decide) wc S b sm L HRC.out T hts ok).mono ?_
        rintro e w5 ⟨rfl, hr5, hk5⟩
        go_wp2_with fail
        exact bodyPost_end (v := .tuple #[]) (by simp [results, Tryd.results28]) rfl (HEND.out _ _ _ hr5 (fun k h => .inl h) (HKC.out.trans hk5 fun i _ e => .inr e) ((wn1 H0.out H1.out).symm))
      | false =>
        have H1 : Hid ((toL W == wDoc) = false) := Lib.hid (by rw [← toList_toL]; exact h1)
        cases h2 : (W.toList == [100, 101, 115, 116]) with
        | true =>
          have H2 : Hid ((toL W == wDest) = true) := Lib.hid (by rw [← toList_toL]; exact h2)
          go_wp2_with fail
          refine (text_any 4 (by decide) wc S b sm L HRC.out T hts ok).mono ?_
          rintro e w5 ⟨rfl, hr5, hk5⟩
          go_wp2_with fail
          exact bodyPost_end (v := .tuple #[]) (by simp [results, Tryd.results28]) rfl (HEND.out _ _ _ hr5 (fun k h => .inl h) (HKC.out.trans hk5 fun i _ e => .inr e) ((wn2 H0.out H1.out H2.out).symm))
        | false =>
          have H2 : Hid ((toL W == wDest) = false) := Lib.hid (by rw [← toList_toL]; exact h2)
          cases h3 : (W.toList == [109, 101, 116, 104, 111, 100]) with
          | true =>
            have H3 : Hid ((toL W == wMethod) = true) := Lib.hid (by rw [← toList_toL]; exact h3)
            go_wp2_with fail
            refine (text_any 5 (by decide) wc S b sm L HRC.out T hts ok).mono ?_
            rintro e w5 ⟨rfl, hr5, hk5⟩
            go_wp2_with fail
            exact bodyPost_end (v := .tuple #[]) (by simp [results, Tryd.results28]) rfl (HEND.out _ _ _ hr5 (fun k h => .inl h) (HKC.out.trans hk5 fun i _ e => .inr e) ((wn3 H0.out H1.out H2.out H3.out).symm))
          | false =>
            have H3 : Hid ((toL W == wMethod) = false) := Lib.hid (by rw [← toList_toL]; exact h3)
            cases h4 : (W.toList == [99, 111, 114, 115]) with
            | true =>
              have H4 : Hid ((toL W == wCors) = true) := Lib.hid (by rw [← toList_toL]; exact h4)
              go_wp2_with fail
              refine (flag_any 6 (by decide) wc S b sm L HRC.out ok).mono ?_
              rintro e w5 ⟨rfl, hr5, hk5⟩
              go_wp2_with fail
              exact bodyPost_end (v := .tuple #[]) (by simp [results, Tryd.results28]) rfl (HEND.out _ _ _ hr5 (fun k h => .inl h) (HKC.out.trans hk5 fun i _ e => .inr e) ((wn4 H0.out H1.out H2.out H3.out H4.out).symm))
            | false =>
              have H4 : Hid ((toL W == wCors) = false) := Lib.hid (by rw [← toList_toL]; exact h4)
              cases h5 : (W.toList == [99, 114, 101, 100, 115]) with
              | true =>
                have H5 : Hid ((toL W == wCreds) = true) := Lib.hid (by rw [← toList_toL]; exact h5)
                go_wp2_with fail
                refine (flag_any 7 (by decide) wc S b sm L HRC.out ok).mono ?_
                rintro e w5 ⟨rfl, hr5, hk5⟩
                go_wp2_with fail
                exact bodyPost_end (v := .tuple #[]) (by simp [results, Tryd.results28]) rfl (HEND.out _ _ _ hr5 (fun k h => .inl h) (HKC.out.trans hk5 fun i _ e => .inr e) ((wn5 H0.out H1.out H2.out H3.out H4.out H5.out).symm))
              | false =>
                have H5 : Hid ((toL W == wCreds) = false) := Lib.hid (by rw [← toList_toL]; exact h5)
                cases h6 : (W.toList == [114, 101, 100, 105, 114, 101, 99, 116]) with
                | true =>
                  have H6 : Hid ((toL W == wRedir) = true) := Lib.hid (by rw [← toList_toL]; exact h6)
                  go_wp2_with fail
                  refine (number_any T 2 wc hts).mono ?_
                  rintro e w5 ⟨rfl, rfl⟩
                  obtain ⟨⟨nn, is⟩, hnn⟩ : ∃ x, number (toL T) 2 = x := ⟨_, rfl⟩
                  have HNN := Lib.hid hnn
                  rw [hnn]
                  clear hnn
                  obtain ⟨F2, mb2, hr⟩ := HRC.out
                  have c1 := blk_cell hr.blk 1
                  have c8 := blk_cell hr.blk 8
                  have f1 := blk_free hr.blk 1
                  have f8 := blk_free hr.blk 8
                  simp only [rcells, List.getElem?_toArray, List.getElem?_cons_zero, List.getElem?_cons_succ] at c1 c8
                  have hltb := hr.lt
                  have HR2 := Lib.hid hr
                  clear hr
                  dsimp only
                  have hfin : ∀ x, x = (sm.bad || !is) → Pb.Fin (R (.returned (.tuple #[])) ((wc.setCell ⟨b, 1, none⟩ (.bool x)).setCell ⟨b, 8, none⟩ (.int .i64 nn))) := fun x hx => by
                    subst hx
                    have k2 := (((Keep.refl (fun k => k = b) wc).set (p := ⟨b, 1, none⟩) rfl (.bool (sm.bad || !is))).set (p := ⟨b, 8, none⟩) rfl (.int .i64 nn))
                    exact HEND.out S { sm with q := { sm.q with redir := nn }, bad := sm.bad || !is } _ ⟨F2, mb2, HR2.out.scal k2 (blk_set (blk_set HR2.out.blk 1 (.bool (sm.bad || !is))) 8 (.int .i64 nn)) rfl rfl⟩ (fun k h => .inl h) (HKC.out.trans k2 fun i _ e => .inr e) (by rw [wn6 H0.out H1.out H2.out H3.out H4.out H5.out H6.out, HNN.out])
                  have HF := Lib.hid hfin
                  clear hfin
                  obtain ⟨bd, hbd⟩ : ∃ x, sm.bad = x := ⟨_, rfl⟩
                  rw [hbd] at c1 HF
                  clear hbd
                  cases bd
                  · go_wp2_with fail
                    exact bodyPost_end (v := .tuple #[]) (by simp [results, Tryd.results28]) rfl (HF.out _ (by simp))
                  · go_wp2_with fail
                    exact bodyPost_end (v := .tuple #[]) (by simp [results, Tryd.results28]) rfl (HF.out _ (by simp))
                | false =>
                  have H6 : Hid ((toL W == wRedir) = false) := Lib.hid (by rw [← toList_toL]; exact h6)
                  cases h7 : (W.toList == [104, 101, 97, 100, 101, 114]) with
                  | true =>
                    have H7 : Hid ((toL W == wHeader) = true) := Lib.hid (by rw [← toList_toL]; exact h7)
                    go_wp2_with fail
                    refine (rfield_any wc S b sm L HRC.out hhd T hts m HMC.out).mono ?_
                    rintro e w5 ⟨rfl, hr5, hk5⟩
                    go_wp2_with fail
                    exact bodyPost_end (v := .tuple #[]) (by simp [results, Tryd.results28]) rfl (HEND.out _ _ _ hr5 (fun k h => h.imp id fun h => by omega) (HKC.out.trans hk5 fun i _ e => e) ((wn7 H0.out H1.out H2.out H3.out H4.out H5.out H6.out H7.out).symm))
                  | false =>
                    have H7 : Hid ((toL W == wHeader) = false) := Lib.hid (by rw [← toList_toL]; exact h7)
                    obtain ⟨F2, mb2, hr⟩ := HRC.out
                    have c1 := blk_cell hr.blk 1
                    have f1 := blk_free hr.blk 1
                    simp only [rcells, List.getElem?_toArray, List.getElem?_cons_zero, List.getElem?_cons_succ] at c1
                    have hltb := hr.lt
                    have HR2 := Lib.hid hr
                    clear hr
                    go_wp2_with fail
                    have k2 := (Keep.refl (fun k => k = b) wc).set (p := ⟨b, 1, none⟩) rfl (.bool true)
                    have hr5 : RdAt _ S b { sm with bad := true } L := ⟨F2, mb2, HR2.out.scal k2 (blk_set HR2.out.blk 1 (.bool true)) rfl rfl⟩
                    exact bodyPost_end (v := .tuple #[]) (by simp [results, Tryd.results28]) rfl (HEND.out _ _ _ hr5 (fun k h => .inl h) (HKC.out.trans k2 fun i _ e => .inr e) ((wn8 H0.out H1.out H2.out H3.out H4.out H5.out H6.out H7.out).symm))
end Go.Proofs.YtilpaopkhghicaaDoor.Asc
