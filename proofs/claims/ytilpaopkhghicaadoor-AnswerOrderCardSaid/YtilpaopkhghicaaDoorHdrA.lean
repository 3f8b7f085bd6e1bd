/-
  Contracts for lists of texts and of fields: IndexFunc, ContainsFunc, SameIn, Fields.
  Lengths within the rows' own reach.
-/
import Derived.Test.YtilpaopkhghicaaDoorAscH
import Derived.Test.YtilpaopkhghicaaDoorMore
import Derived.BigQuiet
namespace Go.Proofs.YtilpaopkhghicaaDoor.Asc
open Go Go.RowKit Go.Proofs.YtilpaopkhghicaaDoor.Pb

section
variable {P : Program} {ops : Array Oper} {rest : List Oper} {d : Option Tmp} {ty : TypeId} {pos : String} {af : Array Edge} {a : Act} {Q : Exit → Act → World → Prop} {w : World}
theorem stop_callv {k : Tmp} {args : Array Operand} {ts : Array TypeId} (h : Stopped (wpList P ops Q (⟨d, .call ⟨.value (.tmp k), args, ts⟩, ty, pos, af, none⟩ :: rest) a w)) :
    wpList P ops Q (⟨d, .call ⟨.value (.tmp k), args, ts⟩, ty, pos, af, none⟩ :: rest) a w := h.out
/-- a call of a function value -/
theorem wp_callv {k : Tmp} {args : Array Operand} {ts : Array TypeId} {fid : FuncId} {caps args' : Array Value} (hent : ∀ (xs : Array Value) (w : World), (callFunc fid xs).run P w = .ok (.enter fid xs) w) (hf : a.eval (.tmp k) = .func (.func fid) #[] caps) (ha : args' = args.map a.eval ++ caps) {Post : Ending → World → Prop} (hc : Calls P fid args' w Post)
    (h : ∀ e w', Post e w' → ∃ v, e = .returned v ∧ wpList P ops Q rest (a.put d v) w') :
    wpList P ops Q (⟨d, .call ⟨.value (.tmp k), args, ts⟩, ty, pos, af, none⟩ :: rest) a w := by
  subst ha
  have hrun : (execOp a.eval ⟨d, .call ⟨.value (.tmp k), args, ts⟩, ty, pos, af, none⟩).run P w = .ok (.enter fid (args.map a.eval ++ caps)) w := by
    simp [execOp, resolve, hf, Deferred.ofValue, invoke, hent]
  refine wpList_plain rfl fun K hK => ?_
  unfold Oper.wp
  rw [hrun, Oper.upon_enter]
  refine hc.mono fun e w'' hh => ?_
  obtain ⟨v, rfl, hk⟩ := h e w'' hh
  exact hK _ _ hk
end

/-- parapetref1.SameIn -/
def sameIn (s : List UInt8) (l : List (List UInt8)) : Bool := l.any fun x => lower x == lower s
/-! ### fields -/
/-- a field: its name, its value -/
abbrev Fd := List UInt8 × List UInt8
def fld : Rp Fd := Rp.pair Rp.str Rp.str
theorem flds_get {w : World} {G : Nat → Prop} {l : List Fd} {v : Value} (h : View fld w G l v) :
    ∃ A c, v = .slice A l.length c ∧ l.length ≤ c ∧ (∀ k, k < l.length → ∃ g off, A = some ⟨g, off, none⟩ ∧ g < w.heap.size ∧ ∀ x, l[k]? = some x →
      w.cell? ⟨g, off + k * 2, none⟩ = some (.string (ofL x.1)) ∧ w.cell? ⟨g, off + k * 2 + 1, none⟩ = some (.string (ofL x.2))) := by
  obtain ⟨A, c, rfl, hc, hA, h⟩ := h
  refine ⟨A, c, rfl, hc, fun k hk => ?_⟩
  rcases h with rfl | ⟨g, off, cells, rfl, hG, hlt, hat, hel⟩
  · simp at hk
  · refine ⟨g, off, rfl, hlt, fun x hx => ?_⟩
    obtain ⟨us, cs, bs, rfl, ha, hr, _, _⟩ := hel.get (fun _ _ h => fld.len h) k hk
    have hx' : l[k] = x := by rw [List.getElem?_eq_getElem hk] at hx; exact Option.some.inj hx
    rw [hx'] at hr
    obtain ⟨c1, c2, rfl, rfl, rfl⟩ := hr
    have h3 : us.length = k * 2 := ha
    have hcell : ∀ j y, ([Value.string (ofL x.1)] ++ [Value.string (ofL x.2)])[j]? = some y → w.cell? ⟨g, off + k * 2 + j, none⟩ = some y := by
      intro j y hj
      have hjl := (List.getElem?_eq_some_iff.1 hj).1
      rw [Nat.add_assoc]
      refine hat (k * 2 + j) y ?_
      rw [List.append_assoc, List.getElem?_append_right (by omega), h3, Nat.add_sub_cancel_left, List.getElem?_append_left hjl]; exact hj
    exact ⟨hcell 0 _ rfl, hcell 1 _ rfl⟩

theorem le_sum_mem {α : Type} (f : α → Nat) (x : α) (l : List α) (h : x ∈ l) : f x ≤ (l.map f).sum := by
  induction l with
  | nil => simp at h
  | cons y l ih =>
    simp only [List.map_cons, List.sum_cons]
    rcases List.mem_cons.1 h with rfl | h
    · omega
    · have := ih h; omega
/-- a list's size, as Fields counts it -/
def fsizeAt (l : List Fd) (k : Nat) : Nat := l.length + ((l.take k).map fun x => x.1.length + x.2.length).sum
theorem fsizeAt_succ (l : List Fd) (k : Nat) (x : Fd) (h : l[k]? = some x) : fsizeAt l (k + 1) = fsizeAt l k + x.1.length + x.2.length := by
  unfold fsizeAt; rw [List.take_add_one, h]; simp; omega
theorem fsizeAt_mono (l : List Fd) (k : Nat) : fsizeAt l k ≤ fsizeAt l (k + 1) := by
  cases h : l[k]? with
  | some x => rw [fsizeAt_succ l k x h]; omega
  | none =>
    unfold fsizeAt; rw [List.take_add_one, h]; simp
theorem fsizeAt_le (l : List Fd) {a b : Nat} (h : a ≤ b) : fsizeAt l a ≤ fsizeAt l b := by
  induction h with
  | refl => exact Nat.le_refl _
  | step _ ih => exact Nat.le_trans ih (fsizeAt_mono l _)
def fsize (l : List Fd) : Nat := fsizeAt l l.length
theorem fsize_mem (l : List Fd) (h : fsize l ≤ 6000) : l.length ≤ 6000 ∧ ∀ x ∈ l, x.1.length ≤ 6000 ∧ x.2.length ≤ 6000 := by
  refine ⟨by unfold fsize fsizeAt at h; omega, fun x hx => ?_⟩
  have : x.1.length + x.2.length ≤ ((l.take l.length).map fun x => x.1.length + x.2.length).sum := by
    rw [List.take_length]
    exact le_sum_mem (fun x : Fd => x.1.length + x.2.length) x l hx
  unfold fsize fsizeAt at h; omega

set_option maxHeartbeats 1000000 in
theorem fields_any (l : List Fd) (v : Value) (F : Nat → Prop) (w : World) (hv : View fld w F l v) (hl : l.length ≤ 140737488351232) (hx : ∀ x ∈ l, x.1.length ≤ 140737488351232 ∧ x.2.length ≤ 140737488351232) :
    Calls Tryd.prog 17 #[v] w fun e w' => e = .returned (.bool (decide (fsize l ≤ 6000))) ∧ Below w.heap.size w w' := by
  refine calls_gen fun R hR => ?_
  obtain ⟨A, c, rfl, hcl, hget⟩ := flds_get hv
  have HG := Lib.hid hget; have HXL := Lib.hid hx
  clear hget hv hx
  go_enter Tryd.func17, Tryd.ntmps17
  go_wp2_with fail
  go_loopw [3, 4] (fun n i wr => ∃ k : Nat, k ≤ l.length ∧ i = .int .i64 k ∧ n = .int .i64 (fsizeAt l k) ∧ (0 < k → fsizeAt l (k - 1) ≤ 6000) ∧ Below w.heap.size w wr) (fun _ i _ => l.length - (intOf i).toNat)
  case atStart => exact ⟨0, Nat.zero_le _, rfl, by simp [fsizeAt], by simp, Below.refl _ _⟩
  case round =>
    obtain ⟨k, hk, rfl, rfl, h0, hb⟩ := hrel
    have HB := Lib.hid hb
    have hbs := hb.size
    clear hb
    have hbound : fsizeAt l k ≤ 500000000000000 := by
      by_cases hk0 : 0 < k
      · obtain ⟨y, hy⟩ : ∃ y, l[k - 1]? = some y := ⟨_, List.getElem?_eq_getElem (by omega)⟩
        have h1 := fsizeAt_succ l (k - 1) y hy
        have h2 := HXL.out y (List.mem_of_getElem? hy)
        have h3 := h0 hk0
        rw [show k - 1 + 1 = k by omega] at h1
        omega
      · obtain rfl : k = 0 := by omega
        simp [fsizeAt]; omega
    obtain ⟨n, hn⟩ : ∃ n, fsizeAt l k = n := ⟨_, rfl⟩
    have HN := Lib.hid hn
    rw [hn] at hbound ⊢
    clear hn h0
    have fin : Hid (¬ (k < l.length ∧ n ≤ 6000) → decide (n ≤ 6000) = decide (fsize l ≤ 6000)) := Lib.hid fun h => by
      by_cases hkl : k < l.length
      · have h1 := fsizeAt_le l (a := k) (b := l.length) (by omega)
        rw [HN.out] at h1
        rw [decide_eq_false (by omega), decide_eq_false (by unfold fsize; omega)]
      · obtain rfl : k = l.length := by omega
        unfold fsize; rw [HN.out]
    by_cases hlt : k < l.length
    · by_cases hn6 : n ≤ 6000
      · clear fin
        obtain ⟨g, off, rfl, hg, hx⟩ := HG.out k hlt
        obtain ⟨x, he⟩ : ∃ x, l[k]? = some x := ⟨_, List.getElem?_eq_getElem hlt⟩
        obtain ⟨c0, c1⟩ := hx x he
        have d0 := (HB.out.cell (p := ⟨g, off + k * 2, none⟩) hg).trans c0
        have d1 := (HB.out.cell (p := ⟨g, off + k * 2 + 1, none⟩) hg).trans c1
        obtain ⟨hx1, hx2⟩ := HXL.out x (List.mem_of_getElem? he)
        have HS := Lib.hid (fsizeAt_succ l k x he)
        have hgr : g < wr.heap.size := by omega
        have hl1 : (ofL x.1).size = x.1.length := ofL_size _
        have hl2 : (ofL x.2).size = x.2.length := ofL_size _
        obtain ⟨X, hX⟩ : ∃ X, ofL x.1 = X := ⟨_, rfl⟩
        obtain ⟨Y, hY⟩ : ∃ Y, ofL x.2 = Y := ⟨_, rfl⟩
        rw [hX] at d0 hl1
        rw [hY] at d1 hl2
        have HL1 := Lib.hid hl1; have HL2 := Lib.hid hl2
        have hX1 : X.size ≤ 140737488351232 := by omega
        have hY1 : Y.size ≤ 140737488351232 := by omega
        have hq0 : (0 : Int) ≤ (k : Int) := by omega
        have hq1 : (k : Int) < (l.length : Int) := by omega
        clear hx he c0 c1 hX hY hl1 hl2
        go_wp2_with fail
        go_quiet (fail)
        go_wp2_with fail
        go_roundw
        case rel => exact ⟨k + 1, by omega, by go_num, by rw [HS.out, HN.out]; congr 1; have := HL1.out; have := HL2.out; omega, fun _ => by rw [Nat.add_sub_cancel, HN.out]; exact hn6, HB.out.drewN _⟩
        case measure => simp [intOf]; omega
      · have HF := Lib.hid (fin.out (by omega))
        clear fin
        go_wp2_with fail
        go_ret
        exact hR _ _ ⟨ret_bool (by rw [← HF.out]; exact decide_eq_decide.2 (by omega)), HB.out⟩
    · have HF := Lib.hid (fin.out (by omega))
      clear fin
      go_wp2_with fail
      go_ret
      exact hR _ _ ⟨ret_bool (by rw [← HF.out]; exact decide_eq_decide.2 (by omega)), HB.out⟩
end Go.Proofs.YtilpaopkhghicaaDoor.Asc
