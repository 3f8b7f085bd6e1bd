/-
  Contracts: a file's sync, cut, loose; a new disk, its ops, its cut.
  Lengths within the rows' own reach.
-/
import Derived.Test.YtlfcbhagbdonhaaDkC
namespace Go.Proofs.Ytlfcbhagbdonhaa.Asc
set_option linter.unusedSimpArgs false
set_option linter.unusedVariables false
open Go Go.RowKit Go.Proofs.Ytlfcbhagbdonhaa.Pb

theorem own_take {α : Type} {enc : α → Value} {h1 : ∀ x, (enc x).oneCell' = true} {e : TypeId} {w : World} {F : Nat → Prop} {xs : List α} {A : Option Addr} {m c n : Nat} (h : Own (Rp.flat enc h1) e w F xs (.slice A m c)) (hn : n ≤ xs.length) :
    Own (Rp.flat enc h1) e w F (xs.take n) (.slice A n c) := by
  obtain ⟨cells, ⟨hl, h2⟩, hF, hel⟩ := h
  obtain rfl := hel.to_map
  rcases h2 with ⟨e1, hz⟩ | ⟨g, cap, cur, e1, hb, hg, hc, hm, hs, ht⟩
  · cases e1
    have hx : xs = [] := List.length_eq_zero_iff.1 hz
    subst hx
    obtain rfl : n = 0 := by simpa using hn
    exact Own.nil _ _ _ _
  · cases e1
    have hz : (xs.take n).length = n := by rw [List.length_take]; omega
    refine ⟨(xs.take n).map enc, ⟨?_, .inr ⟨g, c, cur, by rw [hz], hb, hg, ?_, hm, hs, ?_⟩⟩, hF, Elems.of_map _⟩
    · rw [List.length_map]; show _ = _ * 1; omega
    · rw [hz]; omega
    · rw [hz]
      have h3 : (Rp.flat enc h1).sz = 1 := rfl
      rw [h3, Nat.mul_one] at ht ⊢
      have := congrArg (List.take n) ht
      rw [List.take_take, Nat.min_eq_left hn] at this
      rw [this, List.map_take]

theorem own_same (A : Option Addr) (n m c : Nat) : (Value.slice A n c).ownBlock = (Value.slice A m c).ownBlock := by cases A <;> rfl
section
variable {w : World} {T : Nat → Prop} {fb : Nat} {f : Fl} {v : Value}
theorem sync_any (h : FileIn w T fb f v) :
    Calls Try.prog 32 #[.pointer (some ⟨fb, 0, none⟩)] w fun e w' => e = .returned (.tuple #[]) ∧ FileIn w' T fb { f with sy := f.b.length } v ∧ Keep (fun k => k = fb) w w' := by
  refine calls_gen fun R hR => ?_
  obtain ⟨A, c, rfl, hc⟩ := h.own.slice
  have c0 := blk_cell h.blk 0
  have c1 := blk_cell h.blk 1
  have f1 := blk_free h.blk 1
  simp only [List.getElem?_toArray, List.getElem?_cons_zero, List.getElem?_cons_succ] at c0 c1
  have hlt := h.lt
  have H := Lib.hid h
  clear h
  go_enter Try.func32, Try.ntmps32
  go_wp2_with fail
  have k2 := (Keep.refl (fun k => k = fb) w).set (p := ⟨fb, 1, none⟩) rfl (.int .i64 f.b.length)
  exact bodyPost_end (v := .tuple #[]) (by simp [results, Try.results32]) rfl (hR _ _ ⟨rfl, ⟨blk_set H.out.blk 1 _, H.out.own.keep k2 (fun k hk e => (H.out.inV k hk).2 e), H.out.inF, H.out.inV⟩, k2⟩)
theorem cutf_any (h : FileIn w T fb f v) (n : Nat) (hn : n ≤ f.b.length) (hsy : f.sy ≤ f.b.length) :
    Calls Try.prog 36 #[.pointer (some ⟨fb, 0, none⟩), .int .i64 n] w fun e w' => e = .returned (.tuple #[]) ∧ ∃ v', FileIn w' T fb { f with b := f.b.take n, sy := min f.sy n } v' ∧ Keep (fun k => k = fb) w w' := by
  refine calls_gen fun R hR => ?_
  obtain ⟨A, c, rfl, hc⟩ := h.own.slice
  have c0 := blk_cell h.blk 0
  have c1 := blk_cell h.blk 1
  have f0 := blk_free h.blk 0
  have f1 := blk_free h.blk 1
  simp only [List.getElem?_toArray, List.getElem?_cons_zero, List.getElem?_cons_succ] at c0 c1
  have hlt := h.lt
  have HO := Lib.hid (own_take h.own hn)
  have H := Lib.hid h
  have hi0 : (0 : Int) ≤ (n : Int) := by omega
  have hi1 : (n : Int) ≤ (c : Int) := by omega
  have hi2 : ((n : Int)).toNat = n := by omega
  clear h
  go_enter Try.func36, Try.ntmps36
  go_wp2_with (with_reducible (first | refine stop_min ?_))
  refine ⟨wp_min rfl rfl ?_⟩
  have he : min (f.sy : Int) (n : Int) = ((min f.sy n : Nat) : Int) := by omega
  rw [he]
  clear he
  go_wp2_with fail
  have k2 := ((Keep.refl (fun k => k = fb) w).set (p := ⟨fb, 0, none⟩) rfl (.slice A n c)).set (p := ⟨fb, 1, none⟩) rfl (.int .i64 ((min f.sy n : Nat) : Int))
  exact bodyPost_end (v := .tuple #[]) (by simp [results, Try.results36]) rfl (hR _ _ ⟨rfl, .slice A n c, ⟨blk_set (blk_set H.out.blk 0 _) 1 _, HO.out.flat (fun _ h => h) |>.keep k2 (fun k hk e => (H.out.inV k (own_same A n f.b.length c ▸ hk)).2 e), H.out.inF, fun k hk => H.out.inV k (own_same A n f.b.length c ▸ hk)⟩, k2⟩)
theorem loose_any (h : FileIn w T fb f v) (hsy : f.sy ≤ f.b.length) (hl : f.b.length ≤ 1000000000) :
    Calls Try.prog 34 #[.pointer (some ⟨fb, 0, none⟩)] w fun e w' => e = .returned (.int .i64 ((f.b.length - f.sy : Nat) : Int)) ∧ Below w.heap.size w w' := by
  refine calls_gen fun R hR => ?_
  obtain ⟨A, c, rfl, hc⟩ := h.own.slice
  have c0 := blk_cell h.blk 0
  have c1 := blk_cell h.blk 1
  simp only [List.getElem?_toArray, List.getElem?_cons_zero, List.getElem?_cons_succ] at c0 c1
  have hlt := h.lt
  clear h
  go_enter Try.func34, Try.ntmps34
  go_wp2_with fail
  go_quiet (fail)
  go_wp2_with fail
  go_ret
  refine hR _ _ ⟨?_, (Below.refl _ _).drewN _⟩
  rw [show ((f.b.length : Int) - (f.sy : Int)) = ((f.b.length - f.sy : Nat) : Int) by omega]
  rfl
end

theorem new_any (room : Int) (w : World) :
    Calls Try.prog 9 #[.int .i64 room] w fun e w' =>
      (room < 0 ∨ 4194304 < room → e = .returned (.tuple #[.pointer none, .int .i64 1]) ∧ w' = w) ∧
      (0 ≤ room → room ≤ 4194304 → e = .returned (.tuple #[.pointer (some ⟨w.heap.size, 0, none⟩), .int .i64 0]) ∧ DIn w' (fun k => w.heap.size < k) w.heap.size { room := room } (fun _ => none) (fun _ => none) none ∧ Below w.heap.size w w') := by
  refine calls_gen fun R hR => ?_
  go_enter Try.func9, Try.ntmps9
  by_cases h0 : room < 0
  · go_wp2_with fail
    go_ret2
    exact hR _ _ ⟨fun _ => ⟨rfl, rfl⟩, fun h => by omega⟩
  by_cases h1 : room > 4194304
  · go_wp2_with fail
    go_ret2
    exact hR _ _ ⟨fun _ => ⟨rfl, rfl⟩, fun _ h => by omega⟩
  go_wp2_with fail
  go_ret2
  refine hR _ _ ⟨fun h => by omega, fun _ _ => ⟨rfl, ?_, below_new w _⟩⟩
  exact ⟨blk_new w _, fun _ => ⟨rfl, fun _ => rfl⟩, fun mb e => (by cases e), fun f hf => (by simp at hf), fun n h => (h rfl).elim, (by omega), ⟨List.Pairwise.nil, (by simp), (by simp), fun v e => (by cases e)⟩⟩
theorem ops_any {w : World} {S : Nat → Prop} {d : Nat} {dk : Dk} {g : Tx → Option Nat} {tag : Nat → Option Tx} {mv : Option Nat} (h : DIn w S d dk g tag mv) :
    Calls Try.prog 20 #[.pointer (some ⟨d, 0, none⟩)] w fun e w' => e = .returned (.int .i64 dk.ops) ∧ w' = w := by
  refine calls_gen fun R hR => ?_
  have c2 := blk_cell h.blk 2
  simp only [dcells, List.getElem?_toArray, List.getElem?_cons_zero, List.getElem?_cons_succ] at c2
  have hlt := h.lt
  clear h
  go_enter Try.func20, Try.ntmps20
  go_wp2_with fail
  go_ret
  exact hR _ _ ⟨rfl, rfl⟩
theorem cutd_any {w : World} {S : Nat → Prop} {d : Nat} {dk : Dk} {g : Tx → Option Nat} {tag : Nat → Option Tx} {mv : Option Nat} (h : DIn w S d dk g tag mv) (n : Int) (hn : n ≤ 9223372036854775807) :
    Calls Try.prog 21 #[.pointer (some ⟨d, 0, none⟩), .int .i64 n] w fun e w' => e = .returned (.tuple #[]) ∧ DIn w' S d (dk.cut n) g tag mv ∧ Keep (fun k => k = d) w w' := by
  refine calls_gen fun R hR => ?_
  have H := Lib.hid h
  have c3 := blk_cell h.blk 3
  have c4 := blk_cell h.blk 4
  have f3 := blk_free h.blk 3
  have f4 := blk_free h.blk 4
  simp only [dcells, List.getElem?_toArray, List.getElem?_cons_zero, List.getElem?_cons_succ] at c3 c4
  have hlt := h.lt
  clear h
  go_enter Try.func21, Try.ntmps21
  go_wp2_with (with_reducible (first | refine stop_max ?_))
  refine ⟨wp_max rfl rfl ?_⟩
  go_wp2_with fail
  have k2 := ((Keep.refl (fun k => k = d) w).set (p := ⟨d, 3, none⟩) rfl (.bool true)).set (p := ⟨d, 4, none⟩) rfl (.int .i64 (max n 0))
  refine bodyPost_end (v := .tuple #[]) (by simp [results, Try.results21]) rfl (hR _ _ ⟨rfl, H.out.scal k2 ?_ rfl ?_, k2⟩)
  · have hb := blk_set (blk_set H.out.blk 3 (.bool true)) 4 (.int .i64 (max n 0))
    have e : (((n.toNat : Nat)) : Int) = max n 0 := by omega
    have e2 : dcells (dk.cut n) mv = [.int .i64 dk.room, .map mv, .int .i64 dk.ops, .bool true, .int .i64 (max n 0)] := by rw [← e]; rfl
    rw [e2]
    exact hb
  · exact ⟨H.out.ok.ord, H.out.ok.sy, H.out.ok.nam, fun v e => by
      unfold Dk.cut at e; cases e; omega⟩
end Go.Proofs.Ytlfcbhagbdonhaa.Asc
