/-
  Contracts: a reader's text, field, and the next line.
  Lengths within the rows' own reach; the library's MaxLen is a number.
-/
import Derived.Test.YtilpaopkhghicaaDoorAnB
namespace Go.Proofs.YtilpaopkhghicaaDoor.Asc
open Go Go.RowKit Go.Proofs.YtilpaopkhghicaaDoor.Pb

/-- one of a query's texts -/
def setQ (o : Nat) (q : Qr) (l : List UInt8) : Qr := if o = 2 then { q with doc := l } else if o = 3 then { q with url := l } else if o = 4 then { q with dest := l } else { q with meth := l }
def getQ (o : Nat) (q : Qr) : List UInt8 := if o = 2 then q.doc else if o = 3 then q.url else if o = 4 then q.dest else q.meth

set_option maxHeartbeats 1000000 in
theorem text_any (o : Nat) (ho : o = 2 ∨ o = 3 ∨ o = 4 ∨ o = 5) (w : World) (S : Nat → Prop) (b : Nat) (st : QS) (L : Value) (h : RdAt w S b st L) (s : ByteArray) (hs : s.size ≤ 1000000) (ok : Bool) :
    Calls Tryd.prog 39 #[.pointer (some ⟨b, 0, none⟩), .pointer (some ⟨b, o, none⟩), .string s, .bool ok] w fun e w' => e = .returned (.tuple #[]) ∧
      RdAt w' S b { st with q := setQ o st.q (toL s), bad := st.bad || (!ok || !graphic (toL s)) } L ∧ Keep (fun k => k = b) w w' := by
  refine calls_gen fun R hR => ?_
  obtain ⟨F, mb, h⟩ := h
  have c1 := blk_cell h.blk 1
  have f1 := blk_free h.blk 1
  have fo := blk_free h.blk o
  have co : w.cell? ⟨b, o, none⟩ = some (.string (ofL (getQ o st.q))) := by
    have := blk_cell h.blk o
    rcases ho with rfl | rfl | rfl | rfl <;> exact this
  have ho1 : o ≠ 1 := by omega
  have ho2 : 1 ≠ o := by omega
  simp only [rcells, List.getElem?_toArray, List.getElem?_cons_zero, List.getElem?_cons_succ] at c1
  have hltb := h.lt
  have H := Lib.hid h
  clear h
  go_enter Tryd.func39, Tryd.ntmps39
  obtain ⟨bd, hbd⟩ : ∃ x, st.bad = x := ⟨_, rfl⟩
  have HBD := Lib.hid hbd
  rw [hbd] at c1
  clear hbd
  have hfin : ∀ x, x = (bd || (!ok || !graphic (toL s))) → Pb.Fin (R (.returned (.tuple #[])) ((w.setCell ⟨b, 1, none⟩ (.bool x)).setCell ⟨b, o, none⟩ (.string s))) := fun x hx => by
    subst hx
    have k2 := (((Keep.refl (fun k => k = b) w).set (p := ⟨b, 1, none⟩) rfl (.bool (bd || (!ok || !graphic (toL s))))).set (p := ⟨b, o, none⟩) rfl (.string s))
    refine hR _ _ ⟨rfl, ⟨F, mb, ?_⟩, k2⟩
    rw [HBD.out]
    have hb := blk_set (blk_set H.out.blk 1 (.bool (bd || (!ok || !graphic (toL s))))) o (.string s)
    refine H.out.scal k2 ?_ ?_ rfl
    · rcases ho with rfl | rfl | rfl | rfl <;> exact hb
    · unfold setQ; repeat' split
      all_goals rfl
  have HF := Lib.hid hfin
  have HO := Lib.hid ho
  clear hfin ho
  cases bd
  · cases ok
    · go_wp2_with fail
      exact bodyPost_end (v := .tuple #[]) (by simp [results, Tryd.results39]) rfl (HF.out _ (by simp))
    · go_wp2_with fail
      refine (graphic_any s w hs).mono ?_
      rintro e w2 ⟨rfl, hw2⟩
      rw [hw2]
      clear hw2
      obtain ⟨g, hg⟩ : ∃ g, graphic (toL s) = g := ⟨_, rfl⟩
      rw [hg] at HF ⊢
      clear hg
      cases g
      · go_wp2_with fail
        exact bodyPost_end (v := .tuple #[]) (by simp [results, Tryd.results39]) rfl (HF.out _ (by simp))
      · go_wp2_with fail
        exact bodyPost_end (v := .tuple #[]) (by simp [results, Tryd.results39]) rfl (HF.out _ (by simp))
  · go_wp2_with fail
    exact bodyPost_end (v := .tuple #[]) (by simp [results, Tryd.results39]) rfl (HF.out _ (by simp))

set_option maxHeartbeats 1000000 in
/-- the next line -/
theorem next_any (w : World) (S : Nat → Prop) (b : Nat) (st : QS) (ls : List (List UInt8)) (A : Option Addr) (c : Nat) (G : Nat → Prop) (h : RdAt w S b st (.slice A ls.length c)) (hv : View Rp.str w G ls (.slice A ls.length c)) (hG : ∀ k, G k → k ≠ b) :
    Calls Tryd.prog 27 #[.pointer (some ⟨b, 0, none⟩)] w fun e w' => e = .returned (.tuple #[.string (ofL (ls.headD [])), .bool (!ls.isEmpty)]) ∧
      ∃ A' c', RdAt w' S b st (.slice A' (ls.drop 1).length c') ∧ View Rp.str w' G (ls.drop 1) (.slice A' (ls.drop 1).length c') ∧ Keep (fun k => k = b) w w' := by
  refine calls_gen fun R hR => ?_
  obtain ⟨F, mb, h⟩ := h
  have c0 := blk_cell h.blk 0
  have f0 := blk_free h.blk 0
  simp only [rcells, List.getElem?_toArray, List.getElem?_cons_zero, List.getElem?_cons_succ] at c0
  have hltb := h.lt
  have H := Lib.hid h
  have HV := Lib.hid hv
  go_enter Tryd.func27, Tryd.ntmps27
  rcases ls with _ | ⟨x, ls⟩
  · clear h hv
    go_wp2_with fail
    go_ret2
    exact hR _ _ ⟨rfl, A, c, ⟨F, mb, H.out⟩, HV.out, Keep.refl _ _⟩
  · obtain ⟨A2, c2, e, hcl, hget⟩ := hv.open1
    cases e
    obtain ⟨g, off, rfl, hg, hgx⟩ := hget 0 (by simp)
    have d0 : w.cell? ⟨g, off, none⟩ = some (.string (ofL x)) := hgx 0 x rfl
    have HD := Lib.hid (View.drop hv 1 (by simp))
    clear h hv hget hgx
    obtain ⟨n, hnn⟩ : ∃ n, (x :: ls).length = n := ⟨_, rfl⟩
    have hn1 : 1 ≤ n := by rw [← hnn]; simp
    have hn0 : 0 < n := by omega
    have hi1 : (1 : Int) ≤ (n : Int) := by omega
    have hi2 : ((n : Int) == 0) = false := by rw [beq_eq_false_iff_ne]; omega
    have hnl : Hid (ls.length = n - 1) := Lib.hid (by rw [← hnn]; simp)
    rw [hnn] at c0 hcl HD
    have HN := Lib.hid hnn
    clear hnn
    obtain ⟨V, hV⟩ : ∃ V, Value.slice (if c = 1 then some ⟨g, off, none⟩ else some ⟨g, off + 1, none⟩) (n - 1) (c - 1) = V := ⟨_, rfl⟩
    have HFIN : Hid (∀ W : World, Keep (fun k => k = b) w W → W.heap[b]? = some (.cells (rcells st V F mb).toArray 61 (0, 0)) → Pb.Fin (R (.returned (.tuple #[.string (ofL x), .bool true])) W)) := Lib.hid fun W hk hb => by
      have e1 : V = .slice (if c = 1 then some ⟨g, off, none⟩ else some ⟨g, off + 1, none⟩) ls.length (c - 1) := by rw [hnl.out, hV]
      refine hR _ _ ⟨rfl, _, c - 1, ⟨F, mb, e1 ▸ H.out.scal hk hb rfl rfl⟩, ?_, hk⟩
      have hv2 := HD.out.keep hk fun k hk => hG k hk
      show View Rp.str W G ls (.slice _ ls.length (c - 1))
      rw [hnl.out]
      exact hv2
    have HVV := Lib.hid hV
    clear hV
    go_upto_region 3 with fail
    go_region_law fail
    all_goals
      rw [HVV.out]
      go_wp2_with fail
      refine bodyPost_ret (v := .tuple #[.string (ofL x), .bool true]) (by simp [results, Tryd.results27, go_sem]) rfl (HFIN.out _ ?_ ?_)
      · first
          | exact ((Keep.refl (fun k => k = b) w).set (p := ⟨b, 0, none⟩) rfl V).drew
          | exact ((Keep.refl (fun k => k = b) w).drew).set (p := ⟨b, 0, none⟩) rfl V
          | exact ((Keep.refl (fun k => k = b) w).set (p := ⟨b, 0, none⟩) rfl V)
      · exact blk_set H.out.blk 0 V
end Go.Proofs.YtilpaopkhghicaaDoor.Asc
