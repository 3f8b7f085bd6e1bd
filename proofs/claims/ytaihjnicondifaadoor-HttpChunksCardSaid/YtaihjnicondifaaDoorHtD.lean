/-
  Contracts: how long a body is, a chunk's size, a request's line.
  Lengths within the rows' own reach; the library's MaxLen is a number.
-/
import Derived.Test.YtaihjnicondifaaDoorHtC
namespace Go.Proofs.YtaihjnicondifaaDoor.Asc
open Go Go.RowKit Go.Proofs.YtaihjnicondifaaDoor.Pb

set_option maxHeartbeats 1000000 in
set_option maxRecDepth 20000 in
theorem length_any (l : List (List UInt8)) (v : Value) (F : Nat → Prop) (w : World) (hv : View Rp.str w F l v) (hl : l.length ≤ 140737488351232) (hx : ∀ x ∈ l, x.length ≤ 1000000) :
    Calls Tryd.prog 49 #[v] w fun e w' => e = .returned (.tuple #[.int .i64 (lengthN l).1, .int .i64 (lengthN l).2]) ∧ Below w.heap.size w w' := by
  refine calls_gen fun R hR => ?_
  obtain ⟨A, c, rfl, hcl, hget⟩ := hv.open1
  have HG := Lib.hid hget; have HXL := Lib.hid hx
  clear hget hv hx
  go_enter Tryd.func49, Tryd.ntmps49
  rcases l with _ | ⟨x0, l'⟩
  · go_wp2_with fail
    go_ret2
    exact hR _ _ ⟨rfl, Below.refl _ _⟩
  obtain ⟨l, hll⟩ : ∃ l, x0 :: l' = l := ⟨_, rfl⟩
  have HLN : Hid (lengthN l = if !l.all (fun s => s == x0 && s.all isDig) then (0, 400)
    else if (zerosOff x0).length > 9 then (0, 413)
    else if (number (zerosOff x0) 9).1 > 1048576 then (0, 413)
    else ((number (zerosOff x0) 9).1, 0)) := Lib.hid (by rw [← hll]; rfl)
  have h0 : 0 < l.length := by rw [← hll]; simp
  have hg0 : Hid (l[0]? = some x0) := Lib.hid (by rw [← hll]; rfl)
  rw [hll] at HG HXL hR hl hcl ⊢
  clear hll l'
  obtain ⟨g, off, rfl, hg, -⟩ := HG.out 0 h0
  have hget : Hid (∀ k x, l[k]? = some x → w.cell? ⟨g, off + k, none⟩ = some (.string (ofL x))) := Lib.hid (fun k x hx => by
    have hk : k < l.length := (List.getElem?_eq_some_iff.1 hx).1
    obtain ⟨g', off', e, _, h⟩ := HG.out k hk
    cases e
    exact h k x hx)
  clear HG
  have hne : ((l.length : Int) == 0) = false := by rw [beq_eq_false_iff_ne]; omega
  have hx0 := HXL.out x0 (List.mem_of_getElem? hg0.out)
  go_wp2_with fail
  go_loopw [12] (fun i wr => ∃ k : Nat, k ≤ l.length ∧ i = .int .i64 k ∧ Below w.heap.size w wr ∧ (∀ x ∈ l.take k, (x == x0 && x.all isDig) = true)) (fun i _ => l.length - (intOf i).toNat)
  case atStart => exact ⟨0, Nat.zero_le _, rfl, Below.refl _ _, by simp⟩
  case round =>
    obtain ⟨k, hk, rfl, hb, hall⟩ := hrel
    have HB := Lib.hid hb; have HA := Lib.hid hall
    have hbs := hb.size
    have d0 : wr.cell? ⟨g, off, none⟩ = some (.string (ofL x0)) := (hb.cell (p := ⟨g, off + 0, none⟩) hg).trans (hget.out 0 x0 hg0.out)
    clear hb hall
    have hgr : g < wr.heap.size := by omega
    by_cases hlt : k < l.length
    · obtain ⟨x, he⟩ : ∃ x, l[k]? = some x := ⟨_, List.getElem?_eq_getElem hlt⟩
      have d1 := (HB.out.cell (p := ⟨g, off + k, none⟩) hg).trans (hget.out k x he)
      have hxl := HXL.out x (List.mem_of_getElem? he)
      have HX := Lib.hid he
      clear he
      have hbad : (x == x0 && x.all isDig) = false → lengthN l = (0, 400) := fun h => by
        have : l.all (fun s => s == x0 && s.all isDig) = false := List.all_eq_false.2 ⟨x, List.mem_of_getElem? HX.out, by rw [h]; simp⟩
        rw [HLN.out, this]; rfl
      have HBAD := Lib.hid hbad
      have hq : ((ofL x).toList == (ofL x0).toList) = (x == x0) := by rw [toList_ofL, toList_ofL]
      clear hbad
      cases hb : (x == x0) with
      | false =>
        rw [hb] at hq HBAD
        clear hb
        rw [HBAD.out rfl] at hR
        go_wp2_with fail
        go_ret2
        exact hR _ _ ⟨rfl, HB.out⟩
      | true =>
        rw [hb] at hq HBAD
        have HQ := Lib.hid hb
        clear hb
        go_wp2_with fail
        refine (trimdig_any (ofL x) wr (by rw [ofL_size]; exact hxl)).mono ?_
        rintro e w2 ⟨rfl, hb2⟩
        rw [toL_ofL]
        have HB2 := Lib.hid (HB.out.trans (hb2.mono hbs))
        clear hb2
        have hd : ((ofL (digOff x)).toList == []) = x.all isDig := by rw [toList_ofL, isEmpty_beq, digOff_nil]
        cases hp : x.all isDig with
        | false =>
          rw [hp] at hd HBAD
          clear hp
          rw [HBAD.out rfl] at hR
          go_wp2_with fail
          go_ret2
          exact hR _ _ ⟨rfl, HB2.out⟩
        | true =>
          rw [hp] at hd
          have HP := Lib.hid hp
          clear hp
          go_wp2_with fail
          go_roundw
          case rel => exact ⟨k + 1, by omega, by go_num, HB2.out, fun y hy => by
            rw [List.take_add_one, HX.out] at hy
            rcases List.mem_append.1 hy with hy | hy
            · exact HA.out y hy
            · simp at hy; rw [hy, HQ.out, HP.out]; rfl⟩
          case measure => simp [intOf]; omega
    · obtain rfl : k = l.length := by omega
      rw [List.take_length] at HA
      have hall : l.all (fun s => s == x0 && s.all isDig) = true := List.all_eq_true.2 HA.out
      have HL2 : Hid (lengthN l = if (zerosOff x0).length > 9 then (0, 413)
          else if (number (zerosOff x0) 9).1 > 1048576 then (0, 413)
          else ((number (zerosOff x0) 9).1, 0)) := Lib.hid (by rw [HLN.out, hall]; rfl)
      clear hall HLN
      go_wp2_with fail
      refine (triml0_any (ofL x0) wr).mono ?_
      rintro e w2 ⟨rfl, rfl⟩
      rw [toL_ofL]
      obtain ⟨Z, hZ⟩ : ∃ Z, ofL (zerosOff x0) = Z := ⟨_, rfl⟩
      have hzl : Z.size ≤ 1000000 := by
        rw [← hZ, ofL_size]; have := (List.dropWhile_sublist (· == (48 : UInt8)) (l := x0)).length_le; unfold zerosOff; omega
      have hz : (zerosOff x0).length = Z.size := by rw [← hZ, ofL_size]
      have hz2 : zerosOff x0 = toL Z := by rw [← hZ, toL_ofL]
      rw [hz, hz2] at HL2
      rw [hZ]
      clear hZ hz hz2
      by_cases h9 : Z.size > 9
      · rw [if_pos h9] at HL2
        rw [HL2.out] at hR
        go_wp2_with fail
        go_ret2
        exact hR _ _ ⟨rfl, HB.out⟩
      · rw [if_neg h9] at HL2
        go_wp2_with fail
        refine (number_any Z 9 _ hzl).mono ?_
        rintro e w2 ⟨rfl, rfl⟩
        obtain ⟨n, hn⟩ : ∃ n, (number (toL Z) 9).1 = n := ⟨_, rfl⟩
        rw [hn] at HL2 ⊢
        clear hn
        by_cases hn : n > 1048576
        · rw [if_pos hn] at HL2
          rw [HL2.out] at hR
          go_wp2_with fail
          go_ret2
          exact hR _ _ ⟨rfl, HB.out⟩
        · rw [if_neg hn] at HL2
          rw [HL2.out] at hR
          go_wp2_with fail
          go_ret2
          exact hR _ _ ⟨rfl, HB.out⟩

/-- an Item in a value; its fields' row lies in blocks of S -/
def ItAt (w : World) (S : Nat → Prop) (it : It) (v : Value) : Prop :=
  ∃ fv, v = .agg #[.int .i64 it.st, .string (ofL it.meth), .string (ofL it.path), fv, .string (ofL it.body), .bool it.close] ∧ Own fld 71 w (fun k => fv.ownBlock = some k) it.flds fv ∧ ∀ k, fv.ownBlock = some k → S k
theorem itBad_at (w : World) (S : Nat → Prop) (n : Int) : ItAt w S (badI n) (itBad n) :=
  ⟨_, rfl, Own.nil _ _ _ _, fun k h => by simp [Value.ownBlock] at h⟩

/-- what a method of the parser's says: perhaps an Item -/
def Took (r : PS × Option It) (S : Nat → Prop) (b : Nat) (w w' : World) (e : Ending) : Prop :=
  ∃ v, e = .returned (.tuple #[v, .bool r.2.isSome]) ∧ ItAt w' (fun k => S k ∨ w.heap.size ≤ k) (r.2.getD (badI 0)) v ∧ PAt w' (fun k => S k ∨ w.heap.size ≤ k) b r.1 ∧ Keep (fun k => S k ∨ k = b) w w'

/-- the six cells of an Item are stored -/
def put6 (w : World) (r : Nat) (v0 v1 v2 v3 v4 v5 : Value) : World :=
  (((((w.setCell ⟨r, 0, none⟩ v0).setCell ⟨r, 1, none⟩ v1).setCell ⟨r, 2, none⟩ v2).setCell ⟨r, 3, none⟩ v3).setCell ⟨r, 4, none⟩ v4).setCell ⟨r, 5, none⟩ v5
theorem keep6 (w : World) (r : Nat) (v0 v1 v2 v3 v4 v5 : Value) : Keep (fun k => k = r) w (put6 w r v0 v1 v2 v3 v4 v5) :=
  ((((((Keep.refl (fun k => k = r) w).set (p := ⟨r, 0, none⟩) rfl v0).set (p := ⟨r, 1, none⟩) rfl v1).set (p := ⟨r, 2, none⟩) rfl v2).set (p := ⟨r, 3, none⟩) rfl v3).set (p := ⟨r, 4, none⟩) rfl v4).set (p := ⟨r, 5, none⟩) rfl v5
theorem blk6 {w : World} {r : Nat} {a0 a1 a2 a3 a4 a5 : Value} {t : TypeId} (h : w.heap[r]? = some (.cells #[a0, a1, a2, a3, a4, a5] t (0, 0))) (v0 v1 v2 v3 v4 v5 : Value) :
    (put6 w r v0 v1 v2 v3 v4 v5).heap[r]? = some (.cells #[v0, v1, v2, v3, v4, v5] t (0, 0)) := by
  have := blk_set (blk_set (blk_set (blk_set (blk_set (blk_set h 0 v0) 1 v1) 2 v2) 3 v3) 4 v4) 5 v5
  simpa [put6] using this
theorem cell6 {w : World} {r : Nat} {v0 v1 v2 v3 v4 v5 : Value} {t : TypeId} (h : w.heap[r]? = some (.cells #[v0, v1, v2, v3, v4, v5] t (0, 0))) :
    w.cell? ⟨r, 0, none⟩ = some v0 ∧ w.cell? ⟨r, 1, none⟩ = some v1 ∧ w.cell? ⟨r, 2, none⟩ = some v2 ∧ w.cell? ⟨r, 3, none⟩ = some v3 ∧ w.cell? ⟨r, 4, none⟩ = some v4 ∧ w.cell? ⟨r, 5, none⟩ = some v5 :=
  ⟨blk_cell h 0, blk_cell h 1, blk_cell h 2, blk_cell h 3, blk_cell h 4, blk_cell h 5⟩
/-- the variable that an Item is handed back in -/
def ir0 : Obj := .cells #[.int .i64 0, .string ⟨#[]⟩, .string ⟨#[]⟩, .slice none 0 0, .string ⟨#[]⟩, .bool false] 41 (0, 0)

theorem PIn.bnd {w : World} {S : Nat → Prop} {b : Nat} {p : PS} {L F B : Value} (h : PIn w S b p L F B) : PIn w (fun k => S k ∧ k < w.heap.size) b p L F B :=
  h.mono (fun _ hk hS => ⟨hS, hk⟩) fun e => h.out e.1
theorem PAt.bnd {w : World} {S : Nat → Prop} {b : Nat} {p : PS} (h : PAt w S b p) : PAt w (fun k => S k ∧ k < w.heap.size) b p := by
  obtain ⟨L, F, B, h⟩ := h; exact ⟨L, F, B, h.bnd⟩
theorem PAt.keep {w w' : World} {S G : Nat → Prop} {b : Nat} {p : PS} (h : PAt w S b p) (hk : Keep G w w') (hG : ∀ k, k < w.heap.size → S k ∨ k = b → ¬ G k) : PAt w' S b p := by
  obtain ⟨L, F, B, h⟩ := h; exact ⟨L, F, B, h.keep hk hG⟩
theorem PAt.below {w w' : World} {S : Nat → Prop} {b : Nat} {p : PS} (h : PAt w S b p) (hk : Below w.heap.size w w') : PAt w' S b p := by
  obtain ⟨L, F, B, h⟩ := h; exact ⟨L, F, B, h.below hk⟩
theorem PAt.mono {w : World} {S S' : Nat → Prop} {b : Nat} {p : PS} (h : PAt w S b p) (hS : ∀ k, k < w.heap.size → S k → S' k) (ho : ¬ S' b) : PAt w S' b p := by
  obtain ⟨L, F, B, h⟩ := h; exact ⟨L, F, B, h.mono hS ho⟩
theorem PAt.lt {w : World} {S : Nat → Prop} {b : Nat} {p : PS} (h : PAt w S b p) : b < w.heap.size := by
  obtain ⟨L, F, B, h⟩ := h; exact blk_lt h.blk
theorem PAt.out {w : World} {S : Nat → Prop} {b : Nat} {p : PS} (h : PAt w S b p) : ¬ S b := by
  obtain ⟨L, F, B, h⟩ := h; exact h.out

/-- the end of a method: the Item is stored into the variable r, made at the method's start -/
theorem took_end {w wb : World} {S : Nat → Prop} {b r : Nat} {p' : PS} {o : Option It} {fv : Value} (hr : r = w.heap.size) (hb : b < w.heap.size) (hS : ¬ S b) (hp : PAt wb (fun k => (S k ∨ w.heap.size ≤ k) ∧ k ≠ r) b p') (hk : Keep (fun k => S k ∨ k = b) w wb)
    (ho : Own fld 71 wb (fun k => fv.ownBlock = some k) (o.getD (badI 0)).flds fv) (hf : ∀ k, fv.ownBlock = some k → (S k ∨ w.heap.size ≤ k) ∧ k ≠ r) {v0 v1 v2 v4 v5 : Value} {c : Bool} (hc : c = o.isSome)
    (e0 : v0 = .int .i64 (o.getD (badI 0)).st) (e1 : v1 = .string (ofL (o.getD (badI 0)).meth)) (e2 : v2 = .string (ofL (o.getD (badI 0)).path)) (e4 : v4 = .string (ofL (o.getD (badI 0)).body)) (e5 : v5 = .bool (o.getD (badI 0)).close) :
    Took (p', o) S b w (put6 wb r v0 v1 v2 fv v4 v5) (.returned (.tuple #[.agg #[v0, v1, v2, fv, v4, v5], .bool c])) := by
  subst e0 e1 e2 e4 e5 hc hr
  have k6 := keep6 wb w.heap.size (.int .i64 (o.getD (badI 0)).st) (.string (ofL (o.getD (badI 0)).meth)) (.string (ofL (o.getD (badI 0)).path)) fv (.string (ofL (o.getD (badI 0)).body)) (.bool (o.getD (badI 0)).close)
  refine ⟨_, rfl, ⟨fv, rfl, ho.keep k6 fun k hk e => (hf k hk).2 e, fun k hk => (hf k hk).1⟩, ?_, hk.trans k6 fun i hi e => by omega⟩
  refine (hp.keep k6 fun k _ h e => ?_).mono (fun k _ h => h.1) fun h => ?_
  · rcases h with h | h
    · exact h.2 e
    · omega
  · rcases h with h | h
    · exact hS h
    · omega
end Go.Proofs.YtaihjnicondifaaDoor.Asc
