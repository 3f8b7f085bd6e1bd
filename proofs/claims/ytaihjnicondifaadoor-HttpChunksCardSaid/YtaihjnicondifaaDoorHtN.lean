/-
  Contracts: New, Over, and Feed: bytes are fed.
  Lengths within the rows' own reach; the library's MaxLen is a number.
-/
import Derived.Test.YtaihjnicondifaaDoorHtM
namespace Go.Proofs.YtaihjnicondifaaDoor.Asc
open Go Go.RowKit Go.Proofs.YtaihjnicondifaaDoor.Pb

/-- Items in a row -/
def itm : Rp It := Rp.iso (Rp.pair Rp.int (Rp.pair Rp.str (Rp.pair Rp.str (Rp.pair fld.view (Rp.pair Rp.str Rp.bool))))) (fun x => (x.st, x.meth, x.path, x.flds, x.body, x.close))
theorem itm_rep {w : World} {F : Nat → Prop} {x : It} {fv : Value} (h : View fld w F x.flds fv) : itm.rep w F x [.int .i64 x.st, .string (ofL x.meth), .string (ofL x.path), fv, .string (ofL x.body), .bool x.close] :=
  ⟨[_], _, rfl, rfl, [_], _, rfl, rfl, [_], _, rfl, rfl, [_], _, rfl, ⟨fv, rfl, h⟩, [_], [_], rfl, rfl, rfl⟩
theorem itm_open {w : World} {F : Nat → Prop} {x : It} {cs : List Value} (h : itm.rep w F x cs) : ∃ fv, cs = [.int .i64 x.st, .string (ofL x.meth), .string (ofL x.path), fv, .string (ofL x.body), .bool x.close] ∧ View fld w F x.flds fv := by
  obtain ⟨a, r1, rfl, ha, b, r2, rfl, hb, c, r3, rfl, hc, d, r4, rfl, ⟨fv, hd, hv⟩, e, f, rfl, he, hf⟩ := h
  subst hd
  have ha' : a = [.int .i64 x.st] := ha
  have hb' : b = [.string (ofL x.meth)] := hb
  have hc' : c = [.string (ofL x.path)] := hc
  have he' : e = [.string (ofL x.body)] := he
  have hf' : f = [.bool x.close] := hf
  subst ha' hb' hc' he' hf'
  exact ⟨fv, rfl, hv⟩
theorem infoI : (Tryd.prog.info? 41).map (fun i => (i.zero, i.size, i.bytes)) = some (some (.agg #[.int .i64 0, .string ByteArray.empty, .string ByteArray.empty, .slice none 0 0, .string ByteArray.empty, .bool false]), 6, 88) := by kernel_rfl
theorem view_none {w : World} {F F' : Nat → Prop} {fs : List Fd} {v : Value} (h : View fld w F fs v) (he : fs = []) : View fld w F' fs v := by
  obtain ⟨A, c, h1, h2, h3, _⟩ := h
  exact ⟨A, c, h1, h2, h3, .inl he⟩

theorem over_any (w : World) (S : Nat → Prop) (b : Nat) (p : PS) (h : PAt w S b p) :
    Calls Tryd.prog 15 #[.pointer (some ⟨b, 0, none⟩)] w fun e w' => e = .returned (.bool p.over) ∧ w' = w := by
  refine calls_gen fun R hR => ?_
  obtain ⟨L, F, B, h⟩ := h
  have c13 := blk_cell h.blk 13
  simp only [pcells, List.getElem?_toArray, List.getElem?_cons_zero, List.getElem?_cons_succ] at c13
  have hlt := blk_lt h.blk
  have H := Lib.hid h
  clear h
  go_enter Tryd.func15, Tryd.ntmps15
  go_wp2_with fail
  go_ret
  exact hR _ _ ⟨rfl, rfl⟩
theorem over_nil (w : World) :
    Calls Tryd.prog 15 #[.pointer none] w fun e w' => e = .returned (.bool true) ∧ w' = w := by
  refine calls_gen fun R hR => ?_
  go_enter Tryd.func15, Tryd.ntmps15
  go_wp2_with fail
  go_ret
  exact hR _ _ ⟨rfl, rfl⟩
/-- a parser's cells that read nothing -/
def zero14 : List Value := pcells {} (.slice none 0 0) (.slice none 0 0) (.slice none 0 0)
theorem pin_zero {w : World} {S : Nat → Prop} {b : Nat} (h : w.heap[b]? = some (.cells zero14.toArray 33 (0, 0))) (hS : ¬ S b) : PIn w S b {} (.slice none 0 0) (.slice none 0 0) (.slice none 0 0) :=
  ⟨h, Own.nil _ _ _ _, Own.nil _ _ _ _, Own.nil _ _ _ _, fun k h => by simp [Value.ownBlock] at h, fun k h => by simp [Value.ownBlock] at h, fun k h => by simp [Value.ownBlock] at h, hS, fun k h => by simp [Value.ownBlock] at h, fun k h => by simp [Value.ownBlock] at h, fun k h => by simp [Value.ownBlock] at h⟩
theorem new_any (w : World) :
    Calls Tryd.prog 20 #[] w fun e w' => e = .returned (.pointer (some ⟨w.heap.size, 0, none⟩)) ∧ PAt w' (fun _ => False) w.heap.size {} ∧ Below w.heap.size w w' := by
  refine calls_gen fun R hR => ?_
  go_enter Tryd.func20, Tryd.ntmps20
  go_wp2_with fail
  go_ret
  exact hR _ _ ⟨rfl, ⟨_, _, _, pin_zero (by exact blk_new w _) id⟩, below_new w _⟩

theorem takeN_item (p : PS) (c : UInt8) : ∀ x, (takeN p c).2 = some x → x.st = 0 ∨ x.flds = [] := by
  have hbad : ∀ n, (badI n).flds = [] := fun _ => rfl
  have hdone : ∀ q, (doneN q).st = 0 := fun _ => rfl
  have hhead : ∀ q x, (headedN q).2 = some x → x.st = 0 ∨ x.flds = [] := fun q x h => by
    rw [headedF_eq] at h
    unfold headedF at h
    repeat' split at h
    all_goals first | (cases h; first | exact .inr (hbad _) | exact .inl (hdone _)) | cases h
  have hsize : ∀ q l x, (sizeN q l).2 = some x → x.st = 0 ∨ x.flds = [] := fun q l x h => by
    unfold sizeN at h
    repeat' split at h
    all_goals first | (cases h; exact .inr (hbad _)) | cases h
  have hended : ∀ q l x, (endedN q l).2 = some x → x.st = 0 ∨ x.flds = [] := fun q l x h => by
    unfold endedN at h
    repeat' split at h
    all_goals first | exact hsize _ _ _ h | exact hhead _ _ h | (cases h; first | exact .inr (hbad _) | exact .inl (hdone _)) | cases h
  intro x h
  unfold takeN at h
  dsimp only at h
  repeat' split at h
  all_goals first | exact hended _ _ _ h | (cases h; first | exact .inr (hbad _) | exact .inl (hdone _)) | cases h
end Go.Proofs.YtaihjnicondifaaDoor.Asc
