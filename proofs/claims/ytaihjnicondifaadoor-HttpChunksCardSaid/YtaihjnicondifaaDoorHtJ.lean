/-
  Contracts: what the end of a head says.
  Lengths within the rows' own reach; the library's MaxLen is a number.
-/
import Derived.Test.YtaihjnicondifaaDoorHtI
namespace Go.Proofs.YtaihjnicondifaaDoor.Asc
open Go Go.RowKit Go.Proofs.YtaihjnicondifaaDoor.Pb

/-- what another method has left is handed on through the variable r -/
theorem took_thru {w w1 w2 : World} {S S2 : Nat → Prop} {b r : Nat} {rr : PS × Option It} {e : Ending} (ht : Took rr S2 b w1 w2 e) (hr : w.heap.size ≤ r) (hr1 : r < w1.heap.size) (hb : b < w.heap.size) (hS : ¬ S b)
    (hs2 : ∀ k, S2 k → (S k ∨ w.heap.size ≤ k) ∧ k ≠ r) (hk : Keep (fun k => S k ∨ k = b) w w1) :
    ∃ (n : Int) (a1 a2 : ByteArray) (A : Option Addr) (l c : Nat) (a4 : ByteArray) (c5 c6 : Bool), e = .returned (.tuple #[.agg #[.int .i64 n, .string a1, .string a2, .slice A l c, .string a4, .bool c5], .bool c6]) ∧ w2.heap[r]? = w1.heap[r]? ∧
      Took rr S b w (put6 w2 r (.int .i64 n) (.string a1) (.string a2) (.slice A l c) (.string a4) (.bool c5)) (.returned (.tuple #[.agg #[.int .i64 n, .string a1, .string a2, .slice A l c, .string a4, .bool c5], .bool c6])) := by
  obtain ⟨v, rfl, ⟨fv, rfl, ho, hfv⟩, hp, hk2⟩ := ht
  obtain ⟨A, c, rfl, hc⟩ := ho.slice
  have hin : ∀ k, S2 k ∨ w1.heap.size ≤ k → (S k ∨ w.heap.size ≤ k) ∧ k ≠ r := fun k hk' => by
    rcases hk' with h | h
    · exact hs2 k h
    · have := hk.size
      exact ⟨.inr (by omega), by omega⟩
  refine ⟨_, _, _, A, _, c, _, _, _, rfl, hk2.block r hr1 fun h => ?_, ?_⟩
  · rcases h with h | h
    · exact (hs2 r h).2 rfl
    · omega
  · refine took_end2 (p' := rr.1) (o := rr.2) hr hb hS (hp.mono (fun k _ h => hin k h) fun h => ?_) (hk.trans hk2 fun i hi h => ?_) ho (fun k hk' => hin k (hfv k hk')) rfl rfl rfl rfl rfl rfl
    · rcases h.1 with h | h
      · exact hS h
      · omega
    · rcases h with h | h
      · rcases (hs2 i h).1 with h | h
        · exact .inl h
        · omega
      · exact .inr h

theorem bad_took (w : World) (S : Nat → Prop) (b : Nat) (p : PS) (h : PAt w S b p) (n : Int) :
    Calls Tryd.prog 26 #[.int .i64 n] w fun e w' => Took (p, some (badI n)) S b w w' e := by
  refine (bad_any w n).mono ?_
  rintro e w' ⟨rfl, hb⟩
  refine ⟨_, rfl, itBad_at _ _ _, (h.below hb).mono (fun k _ h => .inl h) (fun h' => ?_), Keep.old hb⟩
  have := h.lt
  rcases h' with h' | h'
  · exact h.out h'
  · omega
theorem none_took (w : World) (S : Nat → Prop) (b : Nat) (p : PS) (h : PAt w S b p) :
    Calls Tryd.prog 24 #[] w fun e w' => Took (p, none) S b w w' e := by
  refine (none_any w).mono ?_
  rintro e w' ⟨rfl, hb⟩
  refine ⟨_, rfl, itBad_at _ _ _, (h.below hb).mono (fun k _ h => .inl h) (fun h' => ?_), Keep.old hb⟩
  have := h.lt
  rcases h' with h' | h'
  · exact h.out h'
  · omega

/-- a parser's fields are within bounds -/
def Fit (p : PS) : Prop := p.flds.length ≤ 100000 ∧ ∀ x ∈ p.flds, x.1.length ≤ 1000000 ∧ x.2.length ≤ 1000000
theorem Fit.vals {p : PS} (h : Fit p) (n : List UInt8) : (valsN p n).length ≤ 100000 ∧ ∀ x ∈ valsN p n, x.length ≤ 1000000 := by
  refine ⟨?_, fun x hx => ?_⟩
  · have h1 := values_len p.flds [n] p.flds.length
    rw [List.take_length] at h1
    exact Nat.le_trans h1 h.1
  · unfold valsN values at hx
    obtain ⟨y, hy, rfl⟩ := List.mem_map.1 hx
    exact (h.2 y ((List.mem_filter.1 hy).1)).2
theorem Fit.list {p : PS} (h : Fit p) (n : List UInt8) : (listOf (valsN p n)).length ≤ 140737488351232 ∧ ∀ x ∈ listOf (valsN p n), x.length ≤ 1000000 := by
  obtain ⟨h1, h2⟩ := h.vals n
  refine ⟨?_, fun x hx => ?_⟩
  · have := listOf_len (valsN p n) (valsN p n).length h2
    rw [List.take_length] at this
    omega
  · unfold listOf at hx
    obtain ⟨v, hv, hx⟩ := List.mem_flatMap.1 hx
    unfold someOf at hx
    obtain ⟨y, hy, rfl⟩ := List.mem_map.1 (List.mem_filter.1 hx).1
    exact Nat.le_trans (trim_len y) (Nat.le_trans (split_small v 44 y hy) (h2 v hv))
theorem done_took (w : World) (S : Nat → Prop) (b : Nat) (p : PS) (h : PAt w S b p) (hf : Fit p) (m : Int) (hm : w.cell? ⟨0, 0, none⟩ = some (.int .i64 m)) :
    Calls Tryd.prog 25 #[.pointer (some ⟨b, 0, none⟩)] w fun e w' => Took (p, some (doneN p)) S b w w' e :=
  done_any w S b p h hf.1 hf.2 (hf.list connB).1 (hf.list connB).2 m hm

/-- what the end of a head says, by what it counts -/
def headedF (p : PS) (hn cn sn : Nat) (LC LL : List (List UInt8)) (o : Bool) : PS × Option It :=
  if hn > 1 || (hn == 0 && !o) then (p, some (badI 400))
  else if cn > 0 && sn > 0 then (p, some (badI 400))
  else if cn > 0 && (LC.length != 1 || !sameB (LC.headD []) chunkedB) then (p, some (badI 501))
  else if cn > 0 && o then (p, some (badI 400))
  else if cn > 0 then ({ p with state := 3 }, none)
  else if sn == 0 then (p, some (doneN p))
  else if (lengthN LL).2 != 0 then (p, some (badI (lengthN LL).2))
  else if (lengthN LL).1 == 0 then (p, some (doneN p))
  else ({ p with state := 2, left := (lengthN LL).1 }, none)
theorem headedF_eq (p : PS) : headedN p = headedF p (valsN p hostB).length (valsN p codingB).length (valsN p lengthB).length (listOf (valsN p codingB)) (listOf (valsN p lengthB)) (oldN p) := rfl
section
variable {p : PS} {hn cn sn : Nat} {LC LL : List (List UInt8)} {o : Bool}
theorem hd1 (h : (hn : Int) > 1) : headedF p hn cn sn LC LL o = (p, some (badI 400)) := by
  unfold headedF; rw [if_pos]; simp; omega
theorem hd2 (h : ((hn : Int) == 0) = true) (ho : o = false) : headedF p hn cn sn LC LL o = (p, some (badI 400)) := by
  have : hn = 0 := by rw [beq_iff_eq] at h; omega
  subst this ho
  unfold headedF; rw [if_pos]; rfl
theorem hdp1 (h : ((hn : Int) == 0) = true) (ho : o = true) : (decide (hn > 1) || (hn == 0 && !o)) = false := by
  have : hn = 0 := by rw [beq_iff_eq] at h; omega
  subst this ho; rfl
theorem hdp2 (h1 : ¬ (hn : Int) > 1) (h : ((hn : Int) == 0) = false) : (decide (hn > 1) || (hn == 0 && !o)) = false := by
  have : hn = 1 := by rw [beq_eq_false_iff_ne] at h; omega
  subst this; rfl
variable (hA : (decide (hn > 1) || (hn == 0 && !o)) = false)
include hA
theorem hd3 (hc : (cn : Int) > 0) (hs : (sn : Int) > 0) : headedF p hn cn sn LC LL o = (p, some (badI 400)) := by
  unfold headedF; rw [hA]; rw [if_neg (by decide), if_pos (by simp; omega)]
theorem hd4 (hc : (cn : Int) > 0) (hs : ¬ (sn : Int) > 0) (hl : ((LC.length : Int) != 1) = true) : headedF p hn cn sn LC LL o = (p, some (badI 501)) := by
  have h2 : (LC.length != 1) = true := by simp at hl ⊢; omega
  unfold headedF; rw [hA, h2]; rw [if_neg (by decide), if_neg (by simp; omega), if_pos (by simp; omega)]
theorem hd5 (hc : (cn : Int) > 0) (hs : (sn : Int) ≤ 0) {x : List UInt8} (hl : LC = [x]) (hx : sameB x chunkedB = false) : headedF p hn cn sn LC LL o = (p, some (badI 501)) := by
  subst hl
  unfold headedF; rw [hA]; rw [if_neg (by decide), if_neg (by simp; omega), if_pos (by simp [hx]; omega)]
theorem hd6 (hc : (cn : Int) > 0) (hs : (sn : Int) ≤ 0) {x : List UInt8} (hl : LC = [x]) (hx : sameB x chunkedB = true) (ho : o = true) : headedF p hn cn sn LC LL o = (p, some (badI 400)) := by
  subst hl
  unfold headedF; rw [hA]; rw [if_neg (by decide), if_neg (by simp; omega), if_neg (by simp [hx]), if_pos (by simp [ho]; omega)]
theorem hd7 (hc : (cn : Int) > 0) (hs : (sn : Int) ≤ 0) {x : List UInt8} (hl : LC = [x]) (hx : sameB x chunkedB = true) (ho : o = false) : headedF p hn cn sn LC LL o = ({ p with state := 3 }, none) := by
  subst hl
  unfold headedF; rw [hA]; rw [if_neg (by decide), if_neg (by simp; omega), if_neg (by simp [hx]), if_neg (by simp [ho]), if_pos (by omega)]
theorem hd8 (hc : ¬ (cn : Int) > 0) (hs : ((sn : Int) == 0) = true) : headedF p hn cn sn LC LL o = (p, some (doneN p)) := by
  have h1 : cn = 0 := by omega
  have h2 : sn = 0 := by rw [beq_iff_eq] at hs; omega
  subst h1 h2
  unfold headedF; rw [hA]; simp
theorem hd9 (hc : (cn : Int) ≤ 0) (hs : ((sn : Int) == 0) = false) {n s : Int} (hL : lengthN LL = (n, s)) (h0 : (s != 0) = true) : headedF p hn cn sn LC LL o = (p, some (badI s)) := by
  have h1 : cn = 0 := by omega
  have h2 : (sn == 0) = false := by rw [beq_eq_false_iff_ne] at hs ⊢; omega
  subst h1
  unfold headedF; rw [hA, h2, hL]; simp only [h0]; simp
theorem hd10 (hc : (cn : Int) ≤ 0) (hs : ((sn : Int) == 0) = false) {n s : Int} (hL : lengthN LL = (n, s)) (h0 : (s != 0) = false) (hn0 : (n == 0) = true) : headedF p hn cn sn LC LL o = (p, some (doneN p)) := by
  have h1 : cn = 0 := by omega
  have h2 : (sn == 0) = false := by rw [beq_eq_false_iff_ne] at hs ⊢; omega
  subst h1
  unfold headedF; rw [hA, h2, hL]; simp only [h0, hn0]; simp
theorem hd11 (hc : (cn : Int) ≤ 0) (hs : ((sn : Int) == 0) = false) {n s : Int} (hL : lengthN LL = (n, s)) (h0 : (s != 0) = false) (hn0 : (n == 0) = false) : headedF p hn cn sn LC LL o = ({ p with state := 2, left := n }, none) := by
  have h1 : cn = 0 := by omega
  have h2 : (sn == 0) = false := by rw [beq_eq_false_iff_ne] at hs ⊢; omega
  subst h1
  unfold headedF; rw [hA, h2, hL]; simp only [h0, hn0]; simp
end


set_option maxHeartbeats 4000000 in
set_option maxRecDepth 20000 in
/-- what the end of a head says -/
theorem headed_any (w : World) (S : Nat → Prop) (b : Nat) (p : PS) (h : PAt w S b p) (hf : Fit p) (m : Int) (hm : w.cell? ⟨0, 0, none⟩ = some (.int .i64 m)) :
    Calls Tryd.prog 38 #[.pointer (some ⟨b, 0, none⟩)] w fun e w' => Took (headedN p) S b w w' e := by
  refine calls_gen fun R hR => ?_
  have hml := World.block_lt_of_cell? w _ hm
  have HM := Lib.hid hm; have HML := Lib.hid hml
  have HLB : Hid (b < w.heap.size) := Lib.hid h.lt
  have HNS : Hid (¬ S b) := Lib.hid h.out
  have H := Lib.hid h.bnd
  have HF := Lib.hid hf
  clear hm hml h hf
  have HS2 : Hid (∀ k, S k ∧ k < w.heap.size → (S k ∨ w.heap.size ≤ k) ∧ k ≠ w.heap.size) := Lib.hid fun k h => ⟨.inl h.1, by have := h.2; omega⟩
  obtain ⟨w1, hw1⟩ : ∃ w1, w.alloc (.cells #[.int .i64 0, .string ⟨#[]⟩, .string ⟨#[]⟩, .slice none 0 0, .string ⟨#[]⟩, .bool false] 41) = w1 := ⟨_, rfl⟩
  have HW1 := Lib.hid hw1
  have HB1 : Hid (Below w.heap.size w w1) := Lib.hid (hw1 ▸ below_new w _)
  have HG1 : Hid (w1.heap[w.heap.size]? = some (.cells #[.int .i64 0, .string ⟨#[]⟩, .string ⟨#[]⟩, .slice none 0 0, .string ⟨#[]⟩, .bool false] 41 (0, 0))) := Lib.hid (hw1 ▸ blk_new w _)
  have HR1 : Hid (w.heap.size < w1.heap.size) := Lib.hid (blk_lt HG1.out)
  clear hw1
  go_enter Tryd.func38, Tryd.ntmps38
  go_wp2_with fail
  rw [HW1.out]
  refine (pvalues_any w1 _ b p (H.out.below HB1.out) _ (by decide) HF.out.1 HF.out.2 m ((HB1.out.cell (p := ⟨0, 0, none⟩) HML.out).trans HM.out)).mono ?_
  rintro e w2 ⟨v, rfl, ho, hb⟩
  rw [show toL ⟨#[104, 111, 115, 116]⟩ = hostB from rfl] at ho ⊢
  have HC2 : Hid (Below w1.heap.size w1 w2) := Lib.hid (hb)
  have HL2 := Lib.hid (HF.out.list hostB)
  have HV2 := Lib.hid (HF.out.vals hostB).1
  obtain ⟨LH, hLH⟩ : ∃ L, listOf (valsN p hostB) = L := ⟨_, rfl⟩
  obtain ⟨hn, hhn⟩ : ∃ n, (valsN p hostB).length = n := ⟨_, rfl⟩
  rw [hLH] at ho HL2
  rw [hhn] at HV2
  rw [hhn]
  have HE2 := Lib.hid hLH
  have HN2 := Lib.hid hhn
  obtain ⟨A2, q2, rfl, hq2⟩ := ho.slice
  have HO2 := Lib.hid ho
  have HBW2 := Lib.hid (HB1.out.trans (HC2.out.mono HB1.out.size))
  clear ho hb hLH hhn
  go_wp2_with fail
  refine (pvalues_any w2 _ b p (H.out.below HBW2.out) _ (by decide) HF.out.1 HF.out.2 m ((HBW2.out.cell (p := ⟨0, 0, none⟩) HML.out).trans HM.out)).mono ?_
  rintro e w3 ⟨v, rfl, ho, hb⟩
  rw [show toL ⟨#[116, 114, 97, 110, 115, 102, 101, 114, 45, 101, 110, 99, 111, 100, 105, 110, 103]⟩ = codingB from rfl] at ho ⊢
  have HC3 : Hid (Below w1.heap.size w1 w3) := Lib.hid (HC2.out.trans (hb.mono HC2.out.size))
  have HL3 := Lib.hid (HF.out.list codingB)
  have HV3 := Lib.hid (HF.out.vals codingB).1
  obtain ⟨LC, hLC⟩ : ∃ L, listOf (valsN p codingB) = L := ⟨_, rfl⟩
  obtain ⟨cn, hcn⟩ : ∃ n, (valsN p codingB).length = n := ⟨_, rfl⟩
  rw [hLC] at ho HL3
  rw [hcn] at HV3
  rw [hcn]
  have HE3 := Lib.hid hLC
  have HN3 := Lib.hid hcn
  obtain ⟨A3, q3, rfl, hq3⟩ := ho.slice
  have HO3 := Lib.hid ho
  have HBW3 := Lib.hid (HB1.out.trans (HC3.out.mono HB1.out.size))
  clear ho hb hLC hcn
  go_wp2_with fail
  refine (pvalues_any w3 _ b p (H.out.below HBW3.out) _ (by decide) HF.out.1 HF.out.2 m ((HBW3.out.cell (p := ⟨0, 0, none⟩) HML.out).trans HM.out)).mono ?_
  rintro e w4 ⟨v, rfl, ho, hb⟩
  have HOC := Lib.hid (HO3.out.view.below hb)
  rw [show toL ⟨#[99, 111, 110, 116, 101, 110, 116, 45, 108, 101, 110, 103, 116, 104]⟩ = lengthB from rfl] at ho ⊢
  have HC4 : Hid (Below w1.heap.size w1 w4) := Lib.hid (HC3.out.trans (hb.mono HC3.out.size))
  have HL4 := Lib.hid (HF.out.list lengthB)
  have HV4 := Lib.hid (HF.out.vals lengthB).1
  obtain ⟨LL, hLL⟩ : ∃ L, listOf (valsN p lengthB) = L := ⟨_, rfl⟩
  obtain ⟨sn, hsn⟩ : ∃ n, (valsN p lengthB).length = n := ⟨_, rfl⟩
  rw [hLL] at ho HL4
  rw [hsn] at HV4
  rw [hsn]
  have HE4 := Lib.hid hLL
  have HN4 := Lib.hid hsn
  obtain ⟨A4, q4, rfl, hq4⟩ := ho.slice
  have HO4 := Lib.hid ho
  clear ho hb hLL hsn
  obtain ⟨od, hod⟩ : ∃ o, oldN p = o := ⟨_, rfl⟩
  have HOD := Lib.hid hod
  have HH : Hid (headedN p = headedF p hn cn sn LC LL od) := Lib.hid (by rw [headedF_eq, HN2.out, HN3.out, HN4.out, HE3.out, HE4.out, hod])
  clear hod
  have hcn := HV3.out; have hsn := HV4.out
  have HBW := Lib.hid (HB1.out.trans (HC4.out.mono HB1.out.size))
  have HP4 := Lib.hid (H.out.below HBW.out)
  have HM4 : Hid (w4.cell? ⟨0, 0, none⟩ = some (.int .i64 m)) := Lib.hid ((HBW.out.cell (p := ⟨0, 0, none⟩) HML.out).trans HM.out)
  by_cases h1 : (hn : Int) > 1
  · rw [HH.out, hd1 h1] at hR
    go_wp2_with fail
    refine (bad_took w4 _ b p HP4.out _).mono ?_
    intro e w9 ht
    obtain ⟨n0, a1, a2, A3, l3, m3, a4, c5, c6, rfl, hgr, hT⟩ := took_thru ht (r := w.heap.size) (Nat.le_refl _) (Nat.lt_of_lt_of_le HR1.out HC4.out.size) HLB.out HNS.out HS2.out (Keep.old HBW.out)
    have HT := Lib.hid hT
    have gr : w9.heap[w.heap.size]? = some (.cells #[.int .i64 0, .string ⟨#[]⟩, .string ⟨#[]⟩, .slice none 0 0, .string ⟨#[]⟩, .bool false] 41 (0, 0)) := hgr.trans ((HC4.out.block _ HR1.out).trans HG1.out)
    clear ht hgr hT
    have fr0 := blk_free gr 0
    have fr1 := blk_free gr 1
    have fr2 := blk_free gr 2
    have fr3 := blk_free gr 3
    have fr4 := blk_free gr 4
    have fr5 := blk_free gr 5
    obtain ⟨cr0, cr1, cr2, cr3, cr4, cr5⟩ := cell6 gr
    have hltr := blk_lt gr
    have GR := Lib.hid gr
    clear gr
    go_wp2_with fail
    have Z := cell6 (blk6 GR.out (.int .i64 n0) (.string a1) (.string a2) (.slice A3 l3 m3) (.string a4) (.bool c5))
    unfold put6 at Z
    obtain ⟨z0, z1, z2, z3, z4, z5⟩ := Z
    exact bodyPost_ret (v := .tuple #[.agg #[.int .i64 n0, .string a1, .string a2, .slice A3 l3 m3, .string a4, .bool c5], .bool c6]) (by simp [results, Tryd.results38, go_sem, z0, z1, z2, z3, z4, z5]) rfl (hR _ _ HT.out)
  · cases h0 : ((hn : Int) == 0) with
    | true =>
      go_wp2_with fail
      refine (old_any w4 _ b p HP4.out).mono ?_
      rintro e w6 ⟨rfl, e6⟩
      subst e6
      rw [HOD.out]
      cases od with
      | false =>
        rw [HH.out, hd2 h0 rfl] at hR
        go_wp2_with fail
        refine (bad_took w6 _ b p HP4.out _).mono ?_
        intro e w9 ht
        obtain ⟨n0, a1, a2, A3, l3, m3, a4, c5, c6, rfl, hgr, hT⟩ := took_thru ht (r := w.heap.size) (Nat.le_refl _) (Nat.lt_of_lt_of_le HR1.out HC4.out.size) HLB.out HNS.out HS2.out (Keep.old HBW.out)
        have HT := Lib.hid hT
        have gr : w9.heap[w.heap.size]? = some (.cells #[.int .i64 0, .string ⟨#[]⟩, .string ⟨#[]⟩, .slice none 0 0, .string ⟨#[]⟩, .bool false] 41 (0, 0)) := hgr.trans ((HC4.out.block _ HR1.out).trans HG1.out)
        clear ht hgr hT
        have fr0 := blk_free gr 0
        have fr1 := blk_free gr 1
        have fr2 := blk_free gr 2
        have fr3 := blk_free gr 3
        have fr4 := blk_free gr 4
        have fr5 := blk_free gr 5
        obtain ⟨cr0, cr1, cr2, cr3, cr4, cr5⟩ := cell6 gr
        have hltr := blk_lt gr
        have GR := Lib.hid gr
        clear gr
        go_wp2_with fail
        have Z := cell6 (blk6 GR.out (.int .i64 n0) (.string a1) (.string a2) (.slice A3 l3 m3) (.string a4) (.bool c5))
        unfold put6 at Z
        obtain ⟨z0, z1, z2, z3, z4, z5⟩ := Z
        exact bodyPost_ret (v := .tuple #[.agg #[.int .i64 n0, .string a1, .string a2, .slice A3 l3 m3, .string a4, .bool c5], .bool c6]) (by simp [results, Tryd.results38, go_sem, z0, z1, z2, z3, z4, z5]) rfl (hR _ _ HT.out)
      | true =>
        have HA := Lib.hid (hdp1 (o := true) h0 rfl)
        by_cases hc : (cn : Int) > 0
        · have HHC := Lib.hid hc
          by_cases hs : (sn : Int) > 0
          · rw [HH.out, hd3 HA.out hc hs] at hR
            go_wp2_with fail
            refine (bad_took w6 _ b p HP4.out _).mono ?_
            intro e w9 ht
            obtain ⟨n0, a1, a2, A3, l3, m3, a4, c5, c6, rfl, hgr, hT⟩ := took_thru ht (r := w.heap.size) (Nat.le_refl _) (Nat.lt_of_lt_of_le HR1.out HC4.out.size) HLB.out HNS.out HS2.out (Keep.old HBW.out)
            have HT := Lib.hid hT
            have gr : w9.heap[w.heap.size]? = some (.cells #[.int .i64 0, .string ⟨#[]⟩, .string ⟨#[]⟩, .slice none 0 0, .string ⟨#[]⟩, .bool false] 41 (0, 0)) := hgr.trans ((HC4.out.block _ HR1.out).trans HG1.out)
            clear ht hgr hT
            have fr0 := blk_free gr 0
            have fr1 := blk_free gr 1
            have fr2 := blk_free gr 2
            have fr3 := blk_free gr 3
            have fr4 := blk_free gr 4
            have fr5 := blk_free gr 5
            obtain ⟨cr0, cr1, cr2, cr3, cr4, cr5⟩ := cell6 gr
            have hltr := blk_lt gr
            have GR := Lib.hid gr
            clear gr
            go_wp2_with fail
            have Z := cell6 (blk6 GR.out (.int .i64 n0) (.string a1) (.string a2) (.slice A3 l3 m3) (.string a4) (.bool c5))
            unfold put6 at Z
            obtain ⟨z0, z1, z2, z3, z4, z5⟩ := Z
            exact bodyPost_ret (v := .tuple #[.agg #[.int .i64 n0, .string a1, .string a2, .slice A3 l3 m3, .string a4, .bool c5], .bool c6]) (by simp [results, Tryd.results38, go_sem, z0, z1, z2, z3, z4, z5]) rfl (hR _ _ HT.out)
          · have HHS := Lib.hid hs
            cases hl : ((LC.length : Int) != 1) with
            | true =>
              rw [HH.out, hd4 HA.out hc hs hl] at hR
              go_wp2_with fail
              refine (bad_took w6 _ b p HP4.out _).mono ?_
              intro e w9 ht
              obtain ⟨n0, a1, a2, A3, l3, m3, a4, c5, c6, rfl, hgr, hT⟩ := took_thru ht (r := w.heap.size) (Nat.le_refl _) (Nat.lt_of_lt_of_le HR1.out HC4.out.size) HLB.out HNS.out HS2.out (Keep.old HBW.out)
              have HT := Lib.hid hT
              have gr : w9.heap[w.heap.size]? = some (.cells #[.int .i64 0, .string ⟨#[]⟩, .string ⟨#[]⟩, .slice none 0 0, .string ⟨#[]⟩, .bool false] 41 (0, 0)) := hgr.trans ((HC4.out.block _ HR1.out).trans HG1.out)
              clear ht hgr hT
              have fr0 := blk_free gr 0
              have fr1 := blk_free gr 1
              have fr2 := blk_free gr 2
              have fr3 := blk_free gr 3
              have fr4 := blk_free gr 4
              have fr5 := blk_free gr 5
              obtain ⟨cr0, cr1, cr2, cr3, cr4, cr5⟩ := cell6 gr
              have hltr := blk_lt gr
              have GR := Lib.hid gr
              clear gr
              go_wp2_with fail
              have Z := cell6 (blk6 GR.out (.int .i64 n0) (.string a1) (.string a2) (.slice A3 l3 m3) (.string a4) (.bool c5))
              unfold put6 at Z
              obtain ⟨z0, z1, z2, z3, z4, z5⟩ := Z
              exact bodyPost_ret (v := .tuple #[.agg #[.int .i64 n0, .string a1, .string a2, .slice A3 l3 m3, .string a4, .bool c5], .bool c6]) (by simp [results, Tryd.results38, go_sem, z0, z1, z2, z3, z4, z5]) rfl (hR _ _ HT.out)
            | false =>
              have h0 : 0 < LC.length := by
                rw [bne_eq_false_iff_eq] at hl; omega
              obtain ⟨x, HX⟩ : ∃ x, Hid (LC = [x]) := by
                rcases LC with _ | ⟨x, _ | ⟨y, l⟩⟩
                · simp at h0
                · exact ⟨x, Lib.hid rfl⟩
                · simp at hl; omega
              have hxl := HL3.out.2 x (by rw [HX.out]; simp)
              obtain ⟨A, c, e, hcl, hget⟩ := HOC.out.open1
              cases e
              obtain ⟨g, off, rfl, hg, hgx⟩ := hget 0 h0
              have d0 : w6.cell? ⟨g, off, none⟩ = some (.string (ofL x)) := hgx 0 x (by rw [HX.out]; rfl)
              clear hget hgx
              go_wp2_with fail
              refine (same_any (ofL x) _ w6 (by rw [ofL_size]; exact hxl) (by decide)).mono ?_
              rintro e w5 ⟨rfl, hb5⟩
              rw [toL_ofL, show (lower x == lower (toL ⟨#[99, 104, 117, 110, 107, 101, 100]⟩)) = sameB x chunkedB from rfl]
              have HC5 : Hid (Below w1.heap.size w1 w5) := Lib.hid (HC4.out.trans (hb5.mono HC4.out.size))
              have HBW5 := Lib.hid (HB1.out.trans (HC5.out.mono HB1.out.size))
              clear hb5 d0
              cases hx : sameB x chunkedB with
              | false =>
                rw [HH.out, hd5 HA.out HHC.out HHS.out HX.out hx] at hR
                go_wp2_with fail
                refine (bad_took w5 _ b p (H.out.below HBW5.out) _).mono ?_
                intro e w9 ht
                obtain ⟨n0, a1, a2, A3, l3, m3, a4, c5, c6, rfl, hgr, hT⟩ := took_thru ht (r := w.heap.size) (Nat.le_refl _) (Nat.lt_of_lt_of_le HR1.out HC5.out.size) HLB.out HNS.out HS2.out (Keep.old HBW5.out)
                have HT := Lib.hid hT
                have gr : w9.heap[w.heap.size]? = some (.cells #[.int .i64 0, .string ⟨#[]⟩, .string ⟨#[]⟩, .slice none 0 0, .string ⟨#[]⟩, .bool false] 41 (0, 0)) := hgr.trans ((HC5.out.block _ HR1.out).trans HG1.out)
                clear ht hgr hT
                have fr0 := blk_free gr 0
                have fr1 := blk_free gr 1
                have fr2 := blk_free gr 2
                have fr3 := blk_free gr 3
                have fr4 := blk_free gr 4
                have fr5 := blk_free gr 5
                obtain ⟨cr0, cr1, cr2, cr3, cr4, cr5⟩ := cell6 gr
                have hltr := blk_lt gr
                have GR := Lib.hid gr
                clear gr
                go_wp2_with fail
                have Z := cell6 (blk6 GR.out (.int .i64 n0) (.string a1) (.string a2) (.slice A3 l3 m3) (.string a4) (.bool c5))
                unfold put6 at Z
                obtain ⟨z0, z1, z2, z3, z4, z5⟩ := Z
                exact bodyPost_ret (v := .tuple #[.agg #[.int .i64 n0, .string a1, .string a2, .slice A3 l3 m3, .string a4, .bool c5], .bool c6]) (by simp [results, Tryd.results38, go_sem, z0, z1, z2, z3, z4, z5]) rfl (hR _ _ HT.out)
              | true =>
                go_wp2_with fail
                refine (old_any w5 _ b p (H.out.below HBW5.out)).mono ?_
                rintro e w6 ⟨rfl, e6⟩
                subst e6
                rw [HOD.out]
                rw [HH.out, hd6 HA.out HHC.out HHS.out HX.out hx rfl] at hR
                go_wp2_with fail
                refine (bad_took w6 _ b p (H.out.below HBW5.out) _).mono ?_
                intro e w9 ht
                obtain ⟨n0, a1, a2, A3, l3, m3, a4, c5, c6, rfl, hgr, hT⟩ := took_thru ht (r := w.heap.size) (Nat.le_refl _) (Nat.lt_of_lt_of_le HR1.out HC5.out.size) HLB.out HNS.out HS2.out (Keep.old HBW5.out)
                have HT := Lib.hid hT
                have gr : w9.heap[w.heap.size]? = some (.cells #[.int .i64 0, .string ⟨#[]⟩, .string ⟨#[]⟩, .slice none 0 0, .string ⟨#[]⟩, .bool false] 41 (0, 0)) := hgr.trans ((HC5.out.block _ HR1.out).trans HG1.out)
                clear ht hgr hT
                have fr0 := blk_free gr 0
                have fr1 := blk_free gr 1
                have fr2 := blk_free gr 2
                have fr3 := blk_free gr 3
                have fr4 := blk_free gr 4
                have fr5 := blk_free gr 5
                obtain ⟨cr0, cr1, cr2, cr3, cr4, cr5⟩ := cell6 gr
                have hltr := blk_lt gr
                have GR := Lib.hid gr
                clear gr
                go_wp2_with fail
                have Z := cell6 (blk6 GR.out (.int .i64 n0) (.string a1) (.string a2) (.slice A3 l3 m3) (.string a4) (.bool c5))
                unfold put6 at Z
                obtain ⟨z0, z1, z2, z3, z4, z5⟩ := Z
                exact bodyPost_ret (v := .tuple #[.agg #[.int .i64 n0, .string a1, .string a2, .slice A3 l3 m3, .string a4, .bool c5], .bool c6]) (by simp [results, Tryd.results38, go_sem, z0, z1, z2, z3, z4, z5]) rfl (hR _ _ HT.out)
        · have HHC := Lib.hid hc
          cases hs : ((sn : Int) == 0) with
          | true =>
            rw [HH.out, hd8 HA.out hc hs] at hR
            go_wp2_with fail
            refine (done_took w6 _ b p HP4.out HF.out m HM4.out).mono ?_
            intro e w9 ht
            obtain ⟨n0, a1, a2, A3, l3, m3, a4, c5, c6, rfl, hgr, hT⟩ := took_thru ht (r := w.heap.size) (Nat.le_refl _) (Nat.lt_of_lt_of_le HR1.out HC4.out.size) HLB.out HNS.out HS2.out (Keep.old HBW.out)
            have HT := Lib.hid hT
            have gr : w9.heap[w.heap.size]? = some (.cells #[.int .i64 0, .string ⟨#[]⟩, .string ⟨#[]⟩, .slice none 0 0, .string ⟨#[]⟩, .bool false] 41 (0, 0)) := hgr.trans ((HC4.out.block _ HR1.out).trans HG1.out)
            clear ht hgr hT
            have fr0 := blk_free gr 0
            have fr1 := blk_free gr 1
            have fr2 := blk_free gr 2
            have fr3 := blk_free gr 3
            have fr4 := blk_free gr 4
            have fr5 := blk_free gr 5
            obtain ⟨cr0, cr1, cr2, cr3, cr4, cr5⟩ := cell6 gr
            have hltr := blk_lt gr
            have GR := Lib.hid gr
            clear gr
            go_wp2_with fail
            have Z := cell6 (blk6 GR.out (.int .i64 n0) (.string a1) (.string a2) (.slice A3 l3 m3) (.string a4) (.bool c5))
            unfold put6 at Z
            obtain ⟨z0, z1, z2, z3, z4, z5⟩ := Z
            exact bodyPost_ret (v := .tuple #[.agg #[.int .i64 n0, .string a1, .string a2, .slice A3 l3 m3, .string a4, .bool c5], .bool c6]) (by simp [results, Tryd.results38, go_sem, z0, z1, z2, z3, z4, z5]) rfl (hR _ _ HT.out)
          | false =>
            have HHS := Lib.hid hs
            go_wp2_with fail
            refine (length_any LL _ (fun _ => True) w6 HO4.out.view HL4.out.1 HL4.out.2).mono ?_
            obtain ⟨⟨ln, ls⟩, hL⟩ : ∃ r, lengthN LL = r := ⟨_, rfl⟩
            rw [hL]
            have HLN := Lib.hid hL
            clear hL
            rintro e w5 ⟨rfl, hb5⟩
            have HC5 : Hid (Below w1.heap.size w1 w5) := Lib.hid (HC4.out.trans (hb5.mono HC4.out.size))
            have HBW5 := Lib.hid (HB1.out.trans (HC5.out.mono HB1.out.size))
            clear hb5
            cases h0 : (ls != 0) with
            | true =>
              rw [HH.out, hd9 HA.out HHC.out HHS.out HLN.out h0] at hR
              go_wp2_with fail
              refine (bad_took w5 _ b p (H.out.below HBW5.out) _).mono ?_
              intro e w9 ht
              obtain ⟨n0, a1, a2, A3, l3, m3, a4, c5, c6, rfl, hgr, hT⟩ := took_thru ht (r := w.heap.size) (Nat.le_refl _) (Nat.lt_of_lt_of_le HR1.out HC5.out.size) HLB.out HNS.out HS2.out (Keep.old HBW5.out)
              have HT := Lib.hid hT
              have gr : w9.heap[w.heap.size]? = some (.cells #[.int .i64 0, .string ⟨#[]⟩, .string ⟨#[]⟩, .slice none 0 0, .string ⟨#[]⟩, .bool false] 41 (0, 0)) := hgr.trans ((HC5.out.block _ HR1.out).trans HG1.out)
              clear ht hgr hT
              have fr0 := blk_free gr 0
              have fr1 := blk_free gr 1
              have fr2 := blk_free gr 2
              have fr3 := blk_free gr 3
              have fr4 := blk_free gr 4
              have fr5 := blk_free gr 5
              obtain ⟨cr0, cr1, cr2, cr3, cr4, cr5⟩ := cell6 gr
              have hltr := blk_lt gr
              have GR := Lib.hid gr
              clear gr
              go_wp2_with fail
              have Z := cell6 (blk6 GR.out (.int .i64 n0) (.string a1) (.string a2) (.slice A3 l3 m3) (.string a4) (.bool c5))
              unfold put6 at Z
              obtain ⟨z0, z1, z2, z3, z4, z5⟩ := Z
              exact bodyPost_ret (v := .tuple #[.agg #[.int .i64 n0, .string a1, .string a2, .slice A3 l3 m3, .string a4, .bool c5], .bool c6]) (by simp [results, Tryd.results38, go_sem, z0, z1, z2, z3, z4, z5]) rfl (hR _ _ HT.out)
            | false =>
              cases hn0 : (ln == 0) with
              | true =>
                rw [HH.out, hd10 HA.out HHC.out HHS.out HLN.out h0 hn0] at hR
                go_wp2_with fail
                refine (done_took w5 _ b p (H.out.below HBW5.out) HF.out m ((HBW5.out.cell (p := ⟨0, 0, none⟩) HML.out).trans HM.out)).mono ?_
                intro e w9 ht
                obtain ⟨n0, a1, a2, A3, l3, m3, a4, c5, c6, rfl, hgr, hT⟩ := took_thru ht (r := w.heap.size) (Nat.le_refl _) (Nat.lt_of_lt_of_le HR1.out HC5.out.size) HLB.out HNS.out HS2.out (Keep.old HBW5.out)
                have HT := Lib.hid hT
                have gr : w9.heap[w.heap.size]? = some (.cells #[.int .i64 0, .string ⟨#[]⟩, .string ⟨#[]⟩, .slice none 0 0, .string ⟨#[]⟩, .bool false] 41 (0, 0)) := hgr.trans ((HC5.out.block _ HR1.out).trans HG1.out)
                clear ht hgr hT
                have fr0 := blk_free gr 0
                have fr1 := blk_free gr 1
                have fr2 := blk_free gr 2
                have fr3 := blk_free gr 3
                have fr4 := blk_free gr 4
                have fr5 := blk_free gr 5
                obtain ⟨cr0, cr1, cr2, cr3, cr4, cr5⟩ := cell6 gr
                have hltr := blk_lt gr
                have GR := Lib.hid gr
                clear gr
                go_wp2_with fail
                have Z := cell6 (blk6 GR.out (.int .i64 n0) (.string a1) (.string a2) (.slice A3 l3 m3) (.string a4) (.bool c5))
                unfold put6 at Z
                obtain ⟨z0, z1, z2, z3, z4, z5⟩ := Z
                exact bodyPost_ret (v := .tuple #[.agg #[.int .i64 n0, .string a1, .string a2, .slice A3 l3 m3, .string a4, .bool c5], .bool c6]) (by simp [results, Tryd.results38, go_sem, z0, z1, z2, z3, z4, z5]) rfl (hR _ _ HT.out)
              | false =>
                rw [HH.out, hd11 HA.out HHC.out HHS.out HLN.out h0 hn0] at hR
                obtain ⟨L, F, B, hp⟩ := H.out.below HBW5.out
                have c3 := blk_cell hp.blk 3
                have c10 := blk_cell hp.blk 10
                have f3 := blk_free hp.blk 3
                have f10 := blk_free hp.blk 10
                simp only [pcells, List.getElem?_toArray, List.getElem?_cons_zero, List.getElem?_cons_succ] at c3 c10
                have hltb := blk_lt hp.blk
                have HP := Lib.hid hp
                clear hp
                go_wp2_with fail
                have k2 := (((Keep.refl (fun k => k = b) w5).set (p := ⟨b, 3, none⟩) rfl (.int .i64 2)).set (p := ⟨b, 10, none⟩) rfl (.int .i64 ln))
                have p2 := HP.out.scal (p' := { p with state := 2, left := ln }) k2 (blk_set (blk_set HP.out.blk 3 (.int .i64 2)) 10 (.int .i64 ln)) rfl rfl rfl
                have K2 := Lib.hid k2; have P2 := Lib.hid p2
                have hsz := k2.size
                clear k2 p2
                have HK2 := Lib.hid ((Keep.old (F := fun k => S k ∨ k = b) HBW5.out).trans K2.out fun i _ h => .inr h)
                have HRL := Lib.hid (Nat.lt_of_lt_of_le HR1.out HC5.out.size)
                have HRL2 := Lib.hid (Nat.lt_of_lt_of_le HRL.out hsz)
                have HGR := Lib.hid ((K2.out.block _ HRL.out (fun e => by have := HLB.out; omega)).trans ((HC5.out.block _ HR1.out).trans HG1.out))
                clear hsz
                refine (none_took _ (fun k => S k ∧ k < w.heap.size) b _ ⟨_, _, _, P2.out.mono (fun k hk h => by
                                  rcases h with h | h
                                  · exact h
                                  · simp only [size_setCell] at hk; omega) (fun h => HNS.out h.1)⟩).mono ?_
                intro e w9 ht
                obtain ⟨n0, a1, a2, A3, l3, m3, a4, c5, c6, rfl, hgr, hT⟩ := took_thru ht (r := w.heap.size) (Nat.le_refl _) (HRL2.out) HLB.out HNS.out HS2.out (HK2.out)
                have HT := Lib.hid hT
                have gr : w9.heap[w.heap.size]? = some (.cells #[.int .i64 0, .string ⟨#[]⟩, .string ⟨#[]⟩, .slice none 0 0, .string ⟨#[]⟩, .bool false] 41 (0, 0)) := hgr.trans (HGR.out)
                clear ht hgr hT
                have fr0 := blk_free gr 0
                have fr1 := blk_free gr 1
                have fr2 := blk_free gr 2
                have fr3 := blk_free gr 3
                have fr4 := blk_free gr 4
                have fr5 := blk_free gr 5
                obtain ⟨cr0, cr1, cr2, cr3, cr4, cr5⟩ := cell6 gr
                have hltr := blk_lt gr
                have GR := Lib.hid gr
                clear gr
                go_wp2_with fail
                have Z := cell6 (blk6 GR.out (.int .i64 n0) (.string a1) (.string a2) (.slice A3 l3 m3) (.string a4) (.bool c5))
                unfold put6 at Z
                obtain ⟨z0, z1, z2, z3, z4, z5⟩ := Z
                exact bodyPost_ret (v := .tuple #[.agg #[.int .i64 n0, .string a1, .string a2, .slice A3 l3 m3, .string a4, .bool c5], .bool c6]) (by simp [results, Tryd.results38, go_sem, z0, z1, z2, z3, z4, z5]) rfl (hR _ _ HT.out)
    | false =>
      have HA := Lib.hid (hdp2 (o := od) h1 h0)
      by_cases hc : (cn : Int) > 0
      · have HHC := Lib.hid hc
        by_cases hs : (sn : Int) > 0
        · rw [HH.out, hd3 HA.out hc hs] at hR
          go_wp2_with fail
          refine (bad_took w4 _ b p HP4.out _).mono ?_
          intro e w9 ht
          obtain ⟨n0, a1, a2, A3, l3, m3, a4, c5, c6, rfl, hgr, hT⟩ := took_thru ht (r := w.heap.size) (Nat.le_refl _) (Nat.lt_of_lt_of_le HR1.out HC4.out.size) HLB.out HNS.out HS2.out (Keep.old HBW.out)
          have HT := Lib.hid hT
          have gr : w9.heap[w.heap.size]? = some (.cells #[.int .i64 0, .string ⟨#[]⟩, .string ⟨#[]⟩, .slice none 0 0, .string ⟨#[]⟩, .bool false] 41 (0, 0)) := hgr.trans ((HC4.out.block _ HR1.out).trans HG1.out)
          clear ht hgr hT
          have fr0 := blk_free gr 0
          have fr1 := blk_free gr 1
          have fr2 := blk_free gr 2
          have fr3 := blk_free gr 3
          have fr4 := blk_free gr 4
          have fr5 := blk_free gr 5
          obtain ⟨cr0, cr1, cr2, cr3, cr4, cr5⟩ := cell6 gr
          have hltr := blk_lt gr
          have GR := Lib.hid gr
          clear gr
          go_wp2_with fail
          have Z := cell6 (blk6 GR.out (.int .i64 n0) (.string a1) (.string a2) (.slice A3 l3 m3) (.string a4) (.bool c5))
          unfold put6 at Z
          obtain ⟨z0, z1, z2, z3, z4, z5⟩ := Z
          exact bodyPost_ret (v := .tuple #[.agg #[.int .i64 n0, .string a1, .string a2, .slice A3 l3 m3, .string a4, .bool c5], .bool c6]) (by simp [results, Tryd.results38, go_sem, z0, z1, z2, z3, z4, z5]) rfl (hR _ _ HT.out)
        · have HHS := Lib.hid hs
          cases hl : ((LC.length : Int) != 1) with
          | true =>
            rw [HH.out, hd4 HA.out hc hs hl] at hR
            go_wp2_with fail
            refine (bad_took w4 _ b p HP4.out _).mono ?_
            intro e w9 ht
            obtain ⟨n0, a1, a2, A3, l3, m3, a4, c5, c6, rfl, hgr, hT⟩ := took_thru ht (r := w.heap.size) (Nat.le_refl _) (Nat.lt_of_lt_of_le HR1.out HC4.out.size) HLB.out HNS.out HS2.out (Keep.old HBW.out)
            have HT := Lib.hid hT
            have gr : w9.heap[w.heap.size]? = some (.cells #[.int .i64 0, .string ⟨#[]⟩, .string ⟨#[]⟩, .slice none 0 0, .string ⟨#[]⟩, .bool false] 41 (0, 0)) := hgr.trans ((HC4.out.block _ HR1.out).trans HG1.out)
            clear ht hgr hT
            have fr0 := blk_free gr 0
            have fr1 := blk_free gr 1
            have fr2 := blk_free gr 2
            have fr3 := blk_free gr 3
            have fr4 := blk_free gr 4
            have fr5 := blk_free gr 5
            obtain ⟨cr0, cr1, cr2, cr3, cr4, cr5⟩ := cell6 gr
            have hltr := blk_lt gr
            have GR := Lib.hid gr
            clear gr
            go_wp2_with fail
            have Z := cell6 (blk6 GR.out (.int .i64 n0) (.string a1) (.string a2) (.slice A3 l3 m3) (.string a4) (.bool c5))
            unfold put6 at Z
            obtain ⟨z0, z1, z2, z3, z4, z5⟩ := Z
            exact bodyPost_ret (v := .tuple #[.agg #[.int .i64 n0, .string a1, .string a2, .slice A3 l3 m3, .string a4, .bool c5], .bool c6]) (by simp [results, Tryd.results38, go_sem, z0, z1, z2, z3, z4, z5]) rfl (hR _ _ HT.out)
          | false =>
            have h0 : 0 < LC.length := by
              rw [bne_eq_false_iff_eq] at hl; omega
            obtain ⟨x, HX⟩ : ∃ x, Hid (LC = [x]) := by
              rcases LC with _ | ⟨x, _ | ⟨y, l⟩⟩
              · simp at h0
              · exact ⟨x, Lib.hid rfl⟩
              · simp at hl; omega
            have hxl := HL3.out.2 x (by rw [HX.out]; simp)
            obtain ⟨A, c, e, hcl, hget⟩ := HOC.out.open1
            cases e
            obtain ⟨g, off, rfl, hg, hgx⟩ := hget 0 h0
            have d0 : w4.cell? ⟨g, off, none⟩ = some (.string (ofL x)) := hgx 0 x (by rw [HX.out]; rfl)
            clear hget hgx
            go_wp2_with fail
            refine (same_any (ofL x) _ w4 (by rw [ofL_size]; exact hxl) (by decide)).mono ?_
            rintro e w5 ⟨rfl, hb5⟩
            rw [toL_ofL, show (lower x == lower (toL ⟨#[99, 104, 117, 110, 107, 101, 100]⟩)) = sameB x chunkedB from rfl]
            have HC5 : Hid (Below w1.heap.size w1 w5) := Lib.hid (HC4.out.trans (hb5.mono HC4.out.size))
            have HBW5 := Lib.hid (HB1.out.trans (HC5.out.mono HB1.out.size))
            clear hb5 d0
            cases hx : sameB x chunkedB with
            | false =>
              rw [HH.out, hd5 HA.out HHC.out HHS.out HX.out hx] at hR
              go_wp2_with fail
              refine (bad_took w5 _ b p (H.out.below HBW5.out) _).mono ?_
              intro e w9 ht
              obtain ⟨n0, a1, a2, A3, l3, m3, a4, c5, c6, rfl, hgr, hT⟩ := took_thru ht (r := w.heap.size) (Nat.le_refl _) (Nat.lt_of_lt_of_le HR1.out HC5.out.size) HLB.out HNS.out HS2.out (Keep.old HBW5.out)
              have HT := Lib.hid hT
              have gr : w9.heap[w.heap.size]? = some (.cells #[.int .i64 0, .string ⟨#[]⟩, .string ⟨#[]⟩, .slice none 0 0, .string ⟨#[]⟩, .bool false] 41 (0, 0)) := hgr.trans ((HC5.out.block _ HR1.out).trans HG1.out)
              clear ht hgr hT
              have fr0 := blk_free gr 0
              have fr1 := blk_free gr 1
              have fr2 := blk_free gr 2
              have fr3 := blk_free gr 3
              have fr4 := blk_free gr 4
              have fr5 := blk_free gr 5
              obtain ⟨cr0, cr1, cr2, cr3, cr4, cr5⟩ := cell6 gr
              have hltr := blk_lt gr
              have GR := Lib.hid gr
              clear gr
              go_wp2_with fail
              have Z := cell6 (blk6 GR.out (.int .i64 n0) (.string a1) (.string a2) (.slice A3 l3 m3) (.string a4) (.bool c5))
              unfold put6 at Z
              obtain ⟨z0, z1, z2, z3, z4, z5⟩ := Z
              exact bodyPost_ret (v := .tuple #[.agg #[.int .i64 n0, .string a1, .string a2, .slice A3 l3 m3, .string a4, .bool c5], .bool c6]) (by simp [results, Tryd.results38, go_sem, z0, z1, z2, z3, z4, z5]) rfl (hR _ _ HT.out)
            | true =>
              go_wp2_with fail
              refine (old_any w5 _ b p (H.out.below HBW5.out)).mono ?_
              rintro e w6 ⟨rfl, e6⟩
              subst e6
              rw [HOD.out]
              cases od with
              | true =>
                rw [HH.out, hd6 HA.out HHC.out HHS.out HX.out hx rfl] at hR
                go_wp2_with fail
                refine (bad_took w6 _ b p (H.out.below HBW5.out) _).mono ?_
                intro e w9 ht
                obtain ⟨n0, a1, a2, A3, l3, m3, a4, c5, c6, rfl, hgr, hT⟩ := took_thru ht (r := w.heap.size) (Nat.le_refl _) (Nat.lt_of_lt_of_le HR1.out HC5.out.size) HLB.out HNS.out HS2.out (Keep.old HBW5.out)
                have HT := Lib.hid hT
                have gr : w9.heap[w.heap.size]? = some (.cells #[.int .i64 0, .string ⟨#[]⟩, .string ⟨#[]⟩, .slice none 0 0, .string ⟨#[]⟩, .bool false] 41 (0, 0)) := hgr.trans ((HC5.out.block _ HR1.out).trans HG1.out)
                clear ht hgr hT
                have fr0 := blk_free gr 0
                have fr1 := blk_free gr 1
                have fr2 := blk_free gr 2
                have fr3 := blk_free gr 3
                have fr4 := blk_free gr 4
                have fr5 := blk_free gr 5
                obtain ⟨cr0, cr1, cr2, cr3, cr4, cr5⟩ := cell6 gr
                have hltr := blk_lt gr
                have GR := Lib.hid gr
                clear gr
                go_wp2_with fail
                have Z := cell6 (blk6 GR.out (.int .i64 n0) (.string a1) (.string a2) (.slice A3 l3 m3) (.string a4) (.bool c5))
                unfold put6 at Z
                obtain ⟨z0, z1, z2, z3, z4, z5⟩ := Z
                exact bodyPost_ret (v := .tuple #[.agg #[.int .i64 n0, .string a1, .string a2, .slice A3 l3 m3, .string a4, .bool c5], .bool c6]) (by simp [results, Tryd.results38, go_sem, z0, z1, z2, z3, z4, z5]) rfl (hR _ _ HT.out)
              | false =>
                rw [HH.out, hd7 HA.out HHC.out HHS.out HX.out hx rfl] at hR
                obtain ⟨L, F, B, hp⟩ := H.out.below HBW5.out
                have c3 := blk_cell hp.blk 3
                have c10 := blk_cell hp.blk 10
                have f3 := blk_free hp.blk 3
                have f10 := blk_free hp.blk 10
                simp only [pcells, List.getElem?_toArray, List.getElem?_cons_zero, List.getElem?_cons_succ] at c3 c10
                have hltb := blk_lt hp.blk
                have HP := Lib.hid hp
                clear hp
                go_wp2_with fail
                have k2 := ((Keep.refl (fun k => k = b) w6).set (p := ⟨b, 3, none⟩) rfl (.int .i64 3))
                have p2 := HP.out.scal (p' := { p with state := 3 }) k2 (blk_set HP.out.blk 3 (.int .i64 3)) rfl rfl rfl
                have K2 := Lib.hid k2; have P2 := Lib.hid p2
                have hsz := k2.size
                clear k2 p2
                have HK2 := Lib.hid ((Keep.old (F := fun k => S k ∨ k = b) HBW5.out).trans K2.out fun i _ h => .inr h)
                have HRL := Lib.hid (Nat.lt_of_lt_of_le HR1.out HC5.out.size)
                have HRL2 := Lib.hid (Nat.lt_of_lt_of_le HRL.out hsz)
                have HGR := Lib.hid ((K2.out.block _ HRL.out (fun e => by have := HLB.out; omega)).trans ((HC5.out.block _ HR1.out).trans HG1.out))
                clear hsz
                refine (none_took _ (fun k => S k ∧ k < w.heap.size) b _ ⟨_, _, _, P2.out.mono (fun k hk h => by
                                  rcases h with h | h
                                  · exact h
                                  · simp only [size_setCell] at hk; omega) (fun h => HNS.out h.1)⟩).mono ?_
                intro e w9 ht
                obtain ⟨n0, a1, a2, A3, l3, m3, a4, c5, c6, rfl, hgr, hT⟩ := took_thru ht (r := w.heap.size) (Nat.le_refl _) (HRL2.out) HLB.out HNS.out HS2.out (HK2.out)
                have HT := Lib.hid hT
                have gr : w9.heap[w.heap.size]? = some (.cells #[.int .i64 0, .string ⟨#[]⟩, .string ⟨#[]⟩, .slice none 0 0, .string ⟨#[]⟩, .bool false] 41 (0, 0)) := hgr.trans (HGR.out)
                clear ht hgr hT
                have fr0 := blk_free gr 0
                have fr1 := blk_free gr 1
                have fr2 := blk_free gr 2
                have fr3 := blk_free gr 3
                have fr4 := blk_free gr 4
                have fr5 := blk_free gr 5
                obtain ⟨cr0, cr1, cr2, cr3, cr4, cr5⟩ := cell6 gr
                have hltr := blk_lt gr
                have GR := Lib.hid gr
                clear gr
                go_wp2_with fail
                have Z := cell6 (blk6 GR.out (.int .i64 n0) (.string a1) (.string a2) (.slice A3 l3 m3) (.string a4) (.bool c5))
                unfold put6 at Z
                obtain ⟨z0, z1, z2, z3, z4, z5⟩ := Z
                exact bodyPost_ret (v := .tuple #[.agg #[.int .i64 n0, .string a1, .string a2, .slice A3 l3 m3, .string a4, .bool c5], .bool c6]) (by simp [results, Tryd.results38, go_sem, z0, z1, z2, z3, z4, z5]) rfl (hR _ _ HT.out)
      · have HHC := Lib.hid hc
        cases hs : ((sn : Int) == 0) with
        | true =>
          rw [HH.out, hd8 HA.out hc hs] at hR
          go_wp2_with fail
          refine (done_took w4 _ b p HP4.out HF.out m HM4.out).mono ?_
          intro e w9 ht
          obtain ⟨n0, a1, a2, A3, l3, m3, a4, c5, c6, rfl, hgr, hT⟩ := took_thru ht (r := w.heap.size) (Nat.le_refl _) (Nat.lt_of_lt_of_le HR1.out HC4.out.size) HLB.out HNS.out HS2.out (Keep.old HBW.out)
          have HT := Lib.hid hT
          have gr : w9.heap[w.heap.size]? = some (.cells #[.int .i64 0, .string ⟨#[]⟩, .string ⟨#[]⟩, .slice none 0 0, .string ⟨#[]⟩, .bool false] 41 (0, 0)) := hgr.trans ((HC4.out.block _ HR1.out).trans HG1.out)
          clear ht hgr hT
          have fr0 := blk_free gr 0
          have fr1 := blk_free gr 1
          have fr2 := blk_free gr 2
          have fr3 := blk_free gr 3
          have fr4 := blk_free gr 4
          have fr5 := blk_free gr 5
          obtain ⟨cr0, cr1, cr2, cr3, cr4, cr5⟩ := cell6 gr
          have hltr := blk_lt gr
          have GR := Lib.hid gr
          clear gr
          go_wp2_with fail
          have Z := cell6 (blk6 GR.out (.int .i64 n0) (.string a1) (.string a2) (.slice A3 l3 m3) (.string a4) (.bool c5))
          unfold put6 at Z
          obtain ⟨z0, z1, z2, z3, z4, z5⟩ := Z
          exact bodyPost_ret (v := .tuple #[.agg #[.int .i64 n0, .string a1, .string a2, .slice A3 l3 m3, .string a4, .bool c5], .bool c6]) (by simp [results, Tryd.results38, go_sem, z0, z1, z2, z3, z4, z5]) rfl (hR _ _ HT.out)
        | false =>
          have HHS := Lib.hid hs
          go_wp2_with fail
          refine (length_any LL _ (fun _ => True) w4 HO4.out.view HL4.out.1 HL4.out.2).mono ?_
          obtain ⟨⟨ln, ls⟩, hL⟩ : ∃ r, lengthN LL = r := ⟨_, rfl⟩
          rw [hL]
          have HLN := Lib.hid hL
          clear hL
          rintro e w5 ⟨rfl, hb5⟩
          have HC5 : Hid (Below w1.heap.size w1 w5) := Lib.hid (HC4.out.trans (hb5.mono HC4.out.size))
          have HBW5 := Lib.hid (HB1.out.trans (HC5.out.mono HB1.out.size))
          clear hb5
          cases h0 : (ls != 0) with
          | true =>
            rw [HH.out, hd9 HA.out HHC.out HHS.out HLN.out h0] at hR
            go_wp2_with fail
            refine (bad_took w5 _ b p (H.out.below HBW5.out) _).mono ?_
            intro e w9 ht
            obtain ⟨n0, a1, a2, A3, l3, m3, a4, c5, c6, rfl, hgr, hT⟩ := took_thru ht (r := w.heap.size) (Nat.le_refl _) (Nat.lt_of_lt_of_le HR1.out HC5.out.size) HLB.out HNS.out HS2.out (Keep.old HBW5.out)
            have HT := Lib.hid hT
            have gr : w9.heap[w.heap.size]? = some (.cells #[.int .i64 0, .string ⟨#[]⟩, .string ⟨#[]⟩, .slice none 0 0, .string ⟨#[]⟩, .bool false] 41 (0, 0)) := hgr.trans ((HC5.out.block _ HR1.out).trans HG1.out)
            clear ht hgr hT
            have fr0 := blk_free gr 0
            have fr1 := blk_free gr 1
            have fr2 := blk_free gr 2
            have fr3 := blk_free gr 3
            have fr4 := blk_free gr 4
            have fr5 := blk_free gr 5
            obtain ⟨cr0, cr1, cr2, cr3, cr4, cr5⟩ := cell6 gr
            have hltr := blk_lt gr
            have GR := Lib.hid gr
            clear gr
            go_wp2_with fail
            have Z := cell6 (blk6 GR.out (.int .i64 n0) (.string a1) (.string a2) (.slice A3 l3 m3) (.string a4) (.bool c5))
            unfold put6 at Z
            obtain ⟨z0, z1, z2, z3, z4, z5⟩ := Z
            exact bodyPost_ret (v := .tuple #[.agg #[.int .i64 n0, .string a1, .string a2, .slice A3 l3 m3, .string a4, .bool c5], .bool c6]) (by simp [results, Tryd.results38, go_sem, z0, z1, z2, z3, z4, z5]) rfl (hR _ _ HT.out)
          | false =>
            cases hn0 : (ln == 0) with
            | true =>
              rw [HH.out, hd10 HA.out HHC.out HHS.out HLN.out h0 hn0] at hR
              go_wp2_with fail
              refine (done_took w5 _ b p (H.out.below HBW5.out) HF.out m ((HBW5.out.cell (p := ⟨0, 0, none⟩) HML.out).trans HM.out)).mono ?_
              intro e w9 ht
              obtain ⟨n0, a1, a2, A3, l3, m3, a4, c5, c6, rfl, hgr, hT⟩ := took_thru ht (r := w.heap.size) (Nat.le_refl _) (Nat.lt_of_lt_of_le HR1.out HC5.out.size) HLB.out HNS.out HS2.out (Keep.old HBW5.out)
              have HT := Lib.hid hT
              have gr : w9.heap[w.heap.size]? = some (.cells #[.int .i64 0, .string ⟨#[]⟩, .string ⟨#[]⟩, .slice none 0 0, .string ⟨#[]⟩, .bool false] 41 (0, 0)) := hgr.trans ((HC5.out.block _ HR1.out).trans HG1.out)
              clear ht hgr hT
              have fr0 := blk_free gr 0
              have fr1 := blk_free gr 1
              have fr2 := blk_free gr 2
              have fr3 := blk_free gr 3
              have fr4 := blk_free gr 4
              have fr5 := blk_free gr 5
              obtain ⟨cr0, cr1, cr2, cr3, cr4, cr5⟩ := cell6 gr
              have hltr := blk_lt gr
              have GR := Lib.hid gr
              clear gr
              go_wp2_with fail
              have Z := cell6 (blk6 GR.out (.int .i64 n0) (.string a1) (.string a2) (.slice A3 l3 m3) (.string a4) (.bool c5))
              unfold put6 at Z
              obtain ⟨z0, z1, z2, z3, z4, z5⟩ := Z
              exact bodyPost_ret (v := .tuple #[.agg #[.int .i64 n0, .string a1, .string a2, .slice A3 l3 m3, .string a4, .bool c5], .bool c6]) (by simp [results, Tryd.results38, go_sem, z0, z1, z2, z3, z4, z5]) rfl (hR _ _ HT.out)
            | false =>
              rw [HH.out, hd11 HA.out HHC.out HHS.out HLN.out h0 hn0] at hR
              obtain ⟨L, F, B, hp⟩ := H.out.below HBW5.out
              have c3 := blk_cell hp.blk 3
              have c10 := blk_cell hp.blk 10
              have f3 := blk_free hp.blk 3
              have f10 := blk_free hp.blk 10
              simp only [pcells, List.getElem?_toArray, List.getElem?_cons_zero, List.getElem?_cons_succ] at c3 c10
              have hltb := blk_lt hp.blk
              have HP := Lib.hid hp
              clear hp
              go_wp2_with fail
              have k2 := (((Keep.refl (fun k => k = b) w5).set (p := ⟨b, 3, none⟩) rfl (.int .i64 2)).set (p := ⟨b, 10, none⟩) rfl (.int .i64 ln))
              have p2 := HP.out.scal (p' := { p with state := 2, left := ln }) k2 (blk_set (blk_set HP.out.blk 3 (.int .i64 2)) 10 (.int .i64 ln)) rfl rfl rfl
              have K2 := Lib.hid k2; have P2 := Lib.hid p2
              have hsz := k2.size
              clear k2 p2
              have HK2 := Lib.hid ((Keep.old (F := fun k => S k ∨ k = b) HBW5.out).trans K2.out fun i _ h => .inr h)
              have HRL := Lib.hid (Nat.lt_of_lt_of_le HR1.out HC5.out.size)
              have HRL2 := Lib.hid (Nat.lt_of_lt_of_le HRL.out hsz)
              have HGR := Lib.hid ((K2.out.block _ HRL.out (fun e => by have := HLB.out; omega)).trans ((HC5.out.block _ HR1.out).trans HG1.out))
              clear hsz
              refine (none_took _ (fun k => S k ∧ k < w.heap.size) b _ ⟨_, _, _, P2.out.mono (fun k hk h => by
                              rcases h with h | h
                              · exact h
                              · simp only [size_setCell] at hk; omega) (fun h => HNS.out h.1)⟩).mono ?_
              intro e w9 ht
              obtain ⟨n0, a1, a2, A3, l3, m3, a4, c5, c6, rfl, hgr, hT⟩ := took_thru ht (r := w.heap.size) (Nat.le_refl _) (HRL2.out) HLB.out HNS.out HS2.out (HK2.out)
              have HT := Lib.hid hT
              have gr : w9.heap[w.heap.size]? = some (.cells #[.int .i64 0, .string ⟨#[]⟩, .string ⟨#[]⟩, .slice none 0 0, .string ⟨#[]⟩, .bool false] 41 (0, 0)) := hgr.trans (HGR.out)
              clear ht hgr hT
              have fr0 := blk_free gr 0
              have fr1 := blk_free gr 1
              have fr2 := blk_free gr 2
              have fr3 := blk_free gr 3
              have fr4 := blk_free gr 4
              have fr5 := blk_free gr 5
              obtain ⟨cr0, cr1, cr2, cr3, cr4, cr5⟩ := cell6 gr
              have hltr := blk_lt gr
              have GR := Lib.hid gr
              clear gr
              go_wp2_with fail
              have Z := cell6 (blk6 GR.out (.int .i64 n0) (.string a1) (.string a2) (.slice A3 l3 m3) (.string a4) (.bool c5))
              unfold put6 at Z
              obtain ⟨z0, z1, z2, z3, z4, z5⟩ := Z
              exact bodyPost_ret (v := .tuple #[.agg #[.int .i64 n0, .string a1, .string a2, .slice A3 l3 m3, .string a4, .bool c5], .bool c6]) (by simp [results, Tryd.results38, go_sem, z0, z1, z2, z3, z4, z5]) rfl (hR _ _ HT.out)
end Go.Proofs.YtaihjnicondifaaDoor.Asc
