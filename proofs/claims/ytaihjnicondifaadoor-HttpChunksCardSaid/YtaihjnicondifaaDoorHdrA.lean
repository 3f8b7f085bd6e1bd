/-
  Contracts for lists of texts and of fields: IndexFunc, ContainsFunc, SameIn, Fields.
  Lengths within the rows' own reach.
-/
import Derived.Test.YtaihjnicondifaaDoorAscH
import Derived.Test.YtaihjnicondifaaDoorMore
import Derived.BigQuiet
namespace Go.Proofs.YtaihjnicondifaaDoor.Asc
open Go Go.RowKit Go.Proofs.YtaihjnicondifaaDoor.Pb

section
variable {P : Program} {ops : Array Oper} {rest : List Oper} {d : Option Tmp} {ty : TypeId} {pos : String} {af : Array Edge} {a : Act} {Q : Exit → Act → World → Prop} {w : World}
theorem stop_callv {k : Tmp} {args : Array Operand} {ts : Array TypeId} (h : Stopped (wpList P ops Q (⟨d, .call ⟨.value (.tmp k), args, ts⟩, ty, pos, af, none⟩ :: rest) a w)) :
    wpList P ops Q (⟨d, .call ⟨.value (.tmp k), args, ts⟩, ty, pos, af, none⟩ :: rest) a w := h.out
/-- a call of a function value -/
theorem wp_callv {k : Tmp} {args : Array Operand} {ts : Array TypeId} {fid : FuncId} {caps args' : Array Value} (hent : ∀ (xs : Array Value) (w : World), (callFunc fid xs).run P w = .ok (.enter fid xs) w) (hf : a.eval (.tmp k) = .func (.func fid) #[] caps) (ha : args' = args.map a.eval ++ caps) {Post : Ending → World → Prop} (hc : Calls P fid args' w Post)
    (h : ∀ e w', Post e w' → ∃ v, e = .returned v ∧ wpList P ops Q rest (a.put d v) w') :
    wpList P ops Q (⟨d, .call ⟨.value (.tmp k), args, ts⟩, ty, pos, af, none⟩ :: rest) a w := by
  subst ha
  have hrun : (execOp a.eval ⟨d, .call ⟨.value (.tmp k), args, ts⟩, ty, pos, af, none⟩).run P w = .ok (.enter fid (args.map a.eval ++ caps)) w := by
    simp [execOp, resolve, hf, Deferred.ofValue, invoke, hent]
  refine wpList_plain rfl fun K hK => ?_
  unfold Oper.wp
  rw [hrun, Oper.upon_enter]
  refine hc.mono fun e w'' hh => ?_
  obtain ⟨v, rfl, hk⟩ := h e w'' hh
  exact hK _ _ hk
end

/-- slices.IndexFunc of texts, by whatever function that answers p -/
theorem indexfunc_any (fid : FuncId) (hent : ∀ (xs : Array Value) (w : World), (callFunc fid xs).run Tryd.prog w = .ok (.enter fid xs) w) (caps : Array Value) (p : List UInt8 → Bool) (l : List (List UInt8)) (v : Value) (F : Nat → Prop) (w : World) (hv : View Rp.str w F l v) (hl : l.length ≤ 140737488351232)
    (hp : ∀ w1, Below w.heap.size w w1 → ∀ x ∈ l, Calls Tryd.prog fid (#[.string (ofL x)] ++ caps) w1 fun e w2 => e = .returned (.bool (p x)) ∧ Below w1.heap.size w1 w2) :
    Calls Tryd.prog 42 #[v, .func (.func fid) #[] caps] w fun e w' => ∃ r : Int, e = .returned (.int .i64 r) ∧ decide (r ≥ 0) = l.any p ∧ Below w.heap.size w w' := by
  refine calls_gen fun R hR => ?_
  obtain ⟨A, c, rfl, hcl, hget⟩ := hv.open1
  have HG := Lib.hid hget; have HP := Lib.hid hp; have HENT := Lib.hid hent
  clear hget hv hp hent
  go_enter Tryd.func42, Tryd.ntmps42
  go_wp2_with fail
  go_loopw [4, 5, 8] (fun _ _ i wr => ∃ k : Nat, k ≤ l.length ∧ i = .int .i64 k ∧ Below w.heap.size w wr ∧ (∀ x ∈ l.take k, p x = false)) (fun _ _ i _ => l.length - (intOf i).toNat)
  case atStart => exact ⟨0, Nat.zero_le _, rfl, Below.refl _ _, by simp⟩
  case round =>
    obtain ⟨k, hk, rfl, hb, hall⟩ := hrel
    have HB := Lib.hid hb; have HA := Lib.hid hall
    clear hb hall
    by_cases hlt : k < l.length
    · obtain ⟨g, off, rfl, hg, hx⟩ := HG.out k hlt
      obtain ⟨x, he⟩ : ∃ x, l[k]? = some x := ⟨_, List.getElem?_eq_getElem hlt⟩
      have hbs := HB.out.size
      have d0 := (HB.out.cell (p := ⟨g, off + k, none⟩) hg).trans (hx k x he)
      have hgr : g < wr.heap.size := by omega
      have HX := Lib.hid he
      clear hx he
      go_wp2_with (with_reducible (first | refine stop_callv ?_))
      refine ⟨?_⟩
      have hc := HP.out wr HB.out x (List.mem_of_getElem? HX.out)
      refine wp_callv (fid := fid) (caps := caps) (args' := #[.string (ofL x)] ++ caps) (Post := fun e w2 => e = .returned (.bool (p x)) ∧ Below wr.heap.size wr w2) HENT.out ?_ ?_ ?cc ?_
      case cc => exact hc
      · rfl
      · simp [Act.eval]
      rintro e w2 ⟨rfl, hb2⟩
      refine ⟨_, rfl, ?_⟩
      have HB2 := Lib.hid (HB.out.trans (hb2.mono hbs))
      clear hb2
      cases hp : p x with
      | true =>
        have HP1 := Lib.hid hp; clear hp
        go_wp2_with fail
        go_ret
        refine hR _ _ ⟨_, rfl, ?_, HB2.out⟩
        rw [List.any_eq_true.2 ⟨x, List.mem_of_getElem? HX.out, HP1.out⟩]
        simp
      | false =>
        have HP1 := Lib.hid hp; clear hp
        go_wp2_with fail
        go_roundw
        case rel => exact ⟨k + 1, by omega, by go_num, HB2.out, fun y hy => by
          rw [List.take_add_one, HX.out] at hy
          rcases List.mem_append.1 hy with hy | hy
          · exact HA.out y hy
          · simp at hy; rw [hy]; exact HP1.out⟩
        case measure => simp [intOf]; omega
    · obtain rfl : k = l.length := by omega
      rw [List.take_length] at HA
      go_wp2_with fail
      go_ret
      refine hR _ _ ⟨_, rfl, ?_, HB.out⟩
      have : l.any p = false := by rw [List.any_eq_false]; intro x hx; rw [HA.out x hx]; simp
      rw [this]; rfl

theorem containsfunc_any (fid : FuncId) (hent : ∀ (xs : Array Value) (w : World), (callFunc fid xs).run Tryd.prog w = .ok (.enter fid xs) w) (caps : Array Value) (p : List UInt8 → Bool) (l : List (List UInt8)) (v : Value) (F : Nat → Prop) (w : World) (hv : View Rp.str w F l v) (hl : l.length ≤ 140737488351232)
    (hp : ∀ w1, Below w.heap.size w w1 → ∀ x ∈ l, Calls Tryd.prog fid (#[.string (ofL x)] ++ caps) w1 fun e w2 => e = .returned (.bool (p x)) ∧ Below w1.heap.size w1 w2) :
    Calls Tryd.prog 32 #[v, .func (.func fid) #[] caps] w fun e w' => e = .returned (.bool (l.any p)) ∧ Below w.heap.size w w' := by
  refine calls_gen fun R hR => ?_
  have HV := Lib.hid hv; have HP := Lib.hid hp
  clear hv hp
  go_enter Tryd.func32, Tryd.ntmps32
  go_wp2_with fail
  refine (indexfunc_any fid hent caps p l v F w HV.out hl HP.out).mono ?_
  rintro e w2 ⟨r, rfl, hr, hb⟩
  have HR := Lib.hid hr
  clear hr
  go_wp2_with fail
  go_ret
  exact hR _ _ ⟨ret_bool HR.out, hb⟩

/-- parapetref1.SameIn -/
def sameIn (s : List UInt8) (l : List (List UInt8)) : Bool := l.any fun x => lower x == lower s
/-! ### fields -/
/-- a field: its name, its value -/
abbrev Fd := List UInt8 × List UInt8
def fld : Rp Fd := Rp.pair Rp.str Rp.str
theorem flds_get {w : World} {G : Nat → Prop} {l : List Fd} {v : Value} (h : View fld w G l v) :
    ∃ A c, v = .slice A l.length c ∧ l.length ≤ c ∧ (∀ k, k < l.length → ∃ g off, A = some ⟨g, off, none⟩ ∧ g < w.heap.size ∧ ∀ x, l[k]? = some x →
      w.cell? ⟨g, off + k * 2, none⟩ = some (.string (ofL x.1)) ∧ w.cell? ⟨g, off + k * 2 + 1, none⟩ = some (.string (ofL x.2))) := by
  obtain ⟨A, c, rfl, hc, hA, h⟩ := h
  refine ⟨A, c, rfl, hc, fun k hk => ?_⟩
  rcases h with rfl | ⟨g, off, cells, rfl, hG, hlt, hat, hel⟩
  · simp at hk
  · refine ⟨g, off, rfl, hlt, fun x hx => ?_⟩
    obtain ⟨us, cs, bs, rfl, ha, hr, _, _⟩ := hel.get (fun _ _ h => fld.len h) k hk
    have hx' : l[k] = x := by rw [List.getElem?_eq_getElem hk] at hx; exact Option.some.inj hx
    rw [hx'] at hr
    obtain ⟨c1, c2, rfl, rfl, rfl⟩ := hr
    have h3 : us.length = k * 2 := ha
    have hcell : ∀ j y, ([Value.string (ofL x.1)] ++ [Value.string (ofL x.2)])[j]? = some y → w.cell? ⟨g, off + k * 2 + j, none⟩ = some y := by
      intro j y hj
      have hjl := (List.getElem?_eq_some_iff.1 hj).1
      rw [Nat.add_assoc]
      refine hat (k * 2 + j) y ?_
      rw [List.append_assoc, List.getElem?_append_right (by omega), h3, Nat.add_sub_cancel_left, List.getElem?_append_left hjl]; exact hj
    exact ⟨hcell 0 _ rfl, hcell 1 _ rfl⟩

theorem le_sum_mem {α : Type} (f : α → Nat) (x : α) (l : List α) (h : x ∈ l) : f x ≤ (l.map f).sum := by
  induction l with
  | nil => simp at h
  | cons y l ih =>
    simp only [List.map_cons, List.sum_cons]
    rcases List.mem_cons.1 h with rfl | h
    · omega
    · have := ih h; omega
/-- a list's size, as Fields counts it -/
def fsizeAt (l : List Fd) (k : Nat) : Nat := l.length + ((l.take k).map fun x => x.1.length + x.2.length).sum
theorem fsizeAt_succ (l : List Fd) (k : Nat) (x : Fd) (h : l[k]? = some x) : fsizeAt l (k + 1) = fsizeAt l k + x.1.length + x.2.length := by
  unfold fsizeAt; rw [List.take_add_one, h]; simp; omega
theorem fsizeAt_mono (l : List Fd) (k : Nat) : fsizeAt l k ≤ fsizeAt l (k + 1) := by
  cases h : l[k]? with
  | some x => rw [fsizeAt_succ l k x h]; omega
  | none =>
    unfold fsizeAt; rw [List.take_add_one, h]; simp
theorem fsizeAt_le (l : List Fd) {a b : Nat} (h : a ≤ b) : fsizeAt l a ≤ fsizeAt l b := by
  induction h with
  | refl => exact Nat.le_refl _
  | step _ ih => exact Nat.le_trans ih (fsizeAt_mono l _)
def fsize (l : List Fd) : Nat := fsizeAt l l.length
theorem fsize_mem (l : List Fd) (h : fsize l ≤ 6000) : l.length ≤ 6000 ∧ ∀ x ∈ l, x.1.length ≤ 6000 ∧ x.2.length ≤ 6000 := by
  refine ⟨by unfold fsize fsizeAt at h; omega, fun x hx => ?_⟩
  have : x.1.length + x.2.length ≤ ((l.take l.length).map fun x => x.1.length + x.2.length).sum := by
    rw [List.take_length]
    exact le_sum_mem (fun x : Fd => x.1.length + x.2.length) x l hx
  unfold fsize fsizeAt at h; omega

end Go.Proofs.YtaihjnicondifaaDoor.Asc
