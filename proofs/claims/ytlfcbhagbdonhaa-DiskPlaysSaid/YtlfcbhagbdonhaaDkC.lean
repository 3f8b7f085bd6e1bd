/-
  A disk in memory; contracts of its small functions.
  Lengths within the rows' own reach.
-/
import Derived.Test.YtlfcbhagbdonhaaDkB
namespace Go.Proofs.Ytlfcbhagbdonhaa.Asc
set_option linter.unusedSimpArgs false
set_option linter.unusedVariables false
open Go Go.RowKit Go.Proofs.Ytlfcbhagbdonhaa.Pb

section
variable {P : Program} {ops : Array Oper} {rest : List Oper} {d : Option Tmp} {ty : TypeId} {pos : String} {af : Array Edge} {a : Act} {Q : Exit → Act → World → Prop} {w w' : World}
theorem stop_min {args : Array Operand} {ts : Array TypeId} (h : Stopped (wpList P ops Q (⟨d, .call ⟨.builtin .min, args, ts⟩, ty, pos, af, none⟩ :: rest) a w)) :
    wpList P ops Q (⟨d, .call ⟨.builtin .min, args, ts⟩, ty, pos, af, none⟩ :: rest) a w := h.out
theorem wp_min {x y : Operand} {p q : Int} {ts : Array TypeId} (hx : a.eval x = .int .i64 p) (hy : a.eval y = .int .i64 q) (h : wpList P ops Q rest (a.put d (.int .i64 (min p q))) w) :
    wpList P ops Q (⟨d, .call ⟨.builtin .min, #[x, y], ts⟩, ty, pos, af, none⟩ :: rest) a w := by
  refine wp_val (exec_builtin (v := .int .i64 (min p q)) (w' := w) ?_) h
  have h1 : (Builtin.min_ ts ty #[.int .i64 p, .int .i64 q]).run P w = .ok (.int .i64 (if q < p then q else p)) w := run_min_int2 ..
  have h2 : (if q < p then q else p) = min p q := by omega
  rw [h2] at h1
  simp [builtin, hx, hy, h1]
theorem stop_max {args : Array Operand} {ts : Array TypeId} (h : Stopped (wpList P ops Q (⟨d, .call ⟨.builtin .max, args, ts⟩, ty, pos, af, none⟩ :: rest) a w)) :
    wpList P ops Q (⟨d, .call ⟨.builtin .max, args, ts⟩, ty, pos, af, none⟩ :: rest) a w := h.out
theorem wp_max {x y : Operand} {p q : Int} {ts : Array TypeId} (hx : a.eval x = .int .i64 p) (hy : a.eval y = .int .i64 q) (h : wpList P ops Q rest (a.put d (.int .i64 (max p q))) w) :
    wpList P ops Q (⟨d, .call ⟨.builtin .max, #[x, y], ts⟩, ty, pos, af, none⟩ :: rest) a w := by
  refine wp_val (exec_builtin (v := .int .i64 (max p q)) (w' := w) ?_) h
  have h1 : (Builtin.max_ ts ty #[.int .i64 p, .int .i64 q]).run P w = .ok (.int .i64 (if p < q then q else p)) w := run_max_int2 ..
  have h2 : (if p < q then q else p) = max p q := by omega
  rw [h2] at h1
  simp [builtin, hx, hy, h1]
theorem stop_mapup {t : TypeId} {m x v : Operand} (h : Stopped (wpList P ops Q (⟨d, .mapUpdate t m x v, ty, pos, af, none⟩ :: rest) a w)) :
    wpList P ops Q (⟨d, .mapUpdate t m x v, ty, pos, af, none⟩ :: rest) a w := h.out
end
theorem own_self {α : Type} {e : TypeId} {w : World} {F : Nat → Prop} {enc : α → Value} {h1 : ∀ x, (enc x).oneCell' = true} {xs : List α} {v : Value} (h : Own (Rp.flat enc h1) e w F xs v) : Own (Rp.flat enc h1) e w (fun k => v.ownBlock = some k) xs v := by
  obtain ⟨cells, a1, _, a3⟩ := h
  exact ⟨cells, a1, fun _ hk => hk, a3⟩
theorem own_lt2 {α : Type} {d : Rp α} {e : TypeId} {w : World} {F : Nat → Prop} {xs : List α} {v : Value} (h : Own d e w F xs v) {k : Nat} (hk : v.ownBlock = some k) : k < w.heap.size := by
  obtain ⟨cells, h1, _⟩ := h
  exact (h1.lt k hk).2

/-- a file lies at fb, its bytes in a row of its own, all in blocks of T -/
structure FileIn (w : World) (T : Nat → Prop) (fb : Nat) (f : Fl) (v : Value) : Prop where
  blk : w.heap[fb]? = some (.cells #[v, .int .i64 f.sy] 70 (0, 0))
  own : Own Rp.u8 5 w (fun k => v.ownBlock = some k) f.b v
  inF : T fb
  inV : ∀ k, v.ownBlock = some k → T k ∧ k ≠ fb
theorem FileIn.lt {w : World} {T : Nat → Prop} {fb : Nat} {f : Fl} {v : Value} (h : FileIn w T fb f v) : fb < w.heap.size := blk_lt h.blk
theorem FileIn.mono {w : World} {T T' : Nat → Prop} {fb : Nat} {f : Fl} {v : Value} (h : FileIn w T fb f v) (hT : ∀ k, k < w.heap.size → T k → T' k) : FileIn w T' fb f v :=
  ⟨h.blk, h.own, hT fb h.lt h.inF, fun k hk => ⟨hT k (own_lt2 h.own hk) (h.inV k hk).1, (h.inV k hk).2⟩⟩
theorem FileIn.keep {w w' : World} {T G : Nat → Prop} {fb : Nat} {f : Fl} {v : Value} (h : FileIn w T fb f v) (hk : Keep G w w') (hG : ∀ k, k < w.heap.size → T k → ¬ G k) : FileIn w' T fb f v :=
  ⟨hk.blk h.blk (hG fb h.lt h.inF), h.own.move fun k hF hl => hk.block k hl (hG k hl (h.inV k hF).1), h.inF, h.inV⟩

theorem FileIn.below {w w' : World} {T : Nat → Prop} {fb : Nat} {f : Fl} {v : Value} (h : FileIn w T fb f v) (hk : Below w.heap.size w w') : FileIn w' T fb f v :=
  h.keep (G := fun k => w.heap.size ≤ k) (Keep.of_below hk) fun k hl _ => by omega

def leftV (dk : Dk) : Int := match dk.lim with | some v => v | none => -(dk.ops : Int)
def dcells (dk : Dk) (mv : Option Nat) : List Value := [.int .i64 dk.room, .map mv, .int .i64 dk.ops, .bool dk.lim.isSome, .int .i64 (leftV dk)]
/-- a disk lies at d; its map and its files lie in blocks of S, each file's blocks bear its name -/
structure DIn (w : World) (S : Nat → Prop) (d : Nat) (dk : Dk) (g : Tx → Option Nat) (tag : Nat → Option Tx) (mv : Option Nat) : Prop where
  blk : w.heap[d]? = some (.cells (dcells dk mv).toArray 61 (0, 0))
  nomap : mv = none → dk.fs = [] ∧ ∀ n, g n = none
  map : ∀ mb, mv = some mb → MapAt w mb g dk.fs.length ∧ S mb ∧ tag mb = none
  files : ∀ f ∈ dk.fs, ∃ fb v, g f.name = some fb ∧ FileIn w (fun k => S k ∧ tag k = some f.name) fb f v
  dom : ∀ n, g n ≠ none → n ∈ names dk.fs
  out : ¬ S d
  ok : dk.Ok
def DAt (w : World) (S : Nat → Prop) (d : Nat) (dk : Dk) : Prop := ∃ g tag mv, DIn w S d dk g tag mv

section
variable {w w' : World} {S : Nat → Prop} {d : Nat} {dk : Dk} {g : Tx → Option Nat} {tag : Nat → Option Tx} {mv : Option Nat}
theorem DIn.lt (h : DIn w S d dk g tag mv) : d < w.heap.size := blk_lt h.blk
theorem DIn.mono {S' : Nat → Prop} (h : DIn w S d dk g tag mv) (hS : ∀ k, k < w.heap.size → S k → S' k) (ho : ¬ S' d) : DIn w S' d dk g tag mv :=
  ⟨h.blk, h.nomap, fun mb e => by
    obtain ⟨a, b, c⟩ := h.map mb e
    exact ⟨a, hS mb a.lt b, c⟩, fun f hf => by
    obtain ⟨fb, v, a, b⟩ := h.files f hf
    exact ⟨fb, v, a, b.mono fun k hk h => ⟨hS k hk h.1, h.2⟩⟩, h.dom, ho, h.ok⟩
theorem DIn.keep {G : Nat → Prop} (h : DIn w S d dk g tag mv) (hk : Keep G w w') (hG : ∀ k, k < w.heap.size → S k ∨ k = d → ¬ G k) : DIn w' S d dk g tag mv :=
  ⟨hk.blk h.blk (hG d h.lt (.inr rfl)), h.nomap, fun mb e => by
    obtain ⟨a, b, c⟩ := h.map mb e
    exact ⟨a.move (hk.block mb a.lt (hG mb a.lt (.inl b))), b, c⟩, fun f hf => by
    obtain ⟨fb, v, a, b⟩ := h.files f hf
    exact ⟨fb, v, a, b.keep hk fun k hl h => hG k hl (.inl h.1)⟩, h.dom, h.out, h.ok⟩
theorem DIn.below (h : DIn w S d dk g tag mv) (hk : Below w.heap.size w w') : DIn w' S d dk g tag mv :=
  h.keep (G := fun k => w.heap.size ≤ k) (Keep.of_below hk) fun k hl _ => by omega
/-- the disk's own cells alone -/
theorem DIn.scal {dk' : Dk} (h : DIn w S d dk g tag mv) (hk : Keep (fun k => k = d) w w') (hb : w'.heap[d]? = some (.cells (dcells dk' mv).toArray 61 (0, 0))) (e : dk'.fs = dk.fs) (hok : dk'.Ok) : DIn w' S d dk' g tag mv :=
  ⟨hb, by rw [e]; exact h.nomap, fun mb e' => by
    obtain ⟨a, b, c⟩ := h.map mb e'
    rw [e]
    exact ⟨a.move (hk.block mb a.lt fun e => h.out (e ▸ b)), b, c⟩, fun f hf => by
    obtain ⟨fb, v, a, b⟩ := h.files f (e ▸ hf)
    exact ⟨fb, v, a, b.keep hk fun k hl h' e => h.out (e ▸ h'.1)⟩, by rw [e]; exact h.dom, h.out, hok⟩
theorem DIn.gnone (h : DIn w S d dk g tag mv) {n : Tx} (hl : look dk.fs n = none) : g n = none := by
  cases hg : g n with
  | none => rfl
  | some b => exact (look_none_iff.1 hl (h.dom n (by rw [hg]; simp))).elim
theorem DIn.gsome (h : DIn w S d dk g tag mv) {n : Tx} {f : Fl} (hl : look dk.fs n = some f) : ∃ fb v, g n = some fb ∧ FileIn w (fun k => S k ∧ tag k = some n) fb f v := by
  obtain ⟨h1, h2⟩ := look_some hl
  obtain ⟨fb, v, a, b⟩ := h.files f h1
  rw [h2] at a b
  exact ⟨fb, v, a, b⟩
theorem DIn.hasg (h : DIn w S d dk g tag mv) (n : Tx) : (g n).isSome = (look dk.fs n).isSome := by
  cases hl : look dk.fs n with
  | none => rw [h.gnone hl]; rfl
  | some f => obtain ⟨fb, v, a, _⟩ := h.gsome hl; rw [a]; rfl
/-- looking up -/
theorem DIn.lookup2 (h : DIn w S d dk g tag mv) {T : ByteArray} (hT : T.size ≤ 1000000) :
    (Instr.lookup 59 (.map mv) (.string T) true).run Try.prog w = .ok (.tuple #[ptrOf (g (toL T)), .bool (g (toL T)).isSome]) w := by
  cases mv with
  | none => rw [(h.nomap rfl).2]; exact nil_look_ok w hT
  | some mb => exact (h.map mb rfl).1.look_ok hT
theorem DIn.lookup1 (h : DIn w S d dk g tag mv) {T : ByteArray} (hT : T.size ≤ 1000000) :
    (Instr.lookup 59 (.map mv) (.string T) false).run Try.prog w = .ok (ptrOf (g (toL T))) w := by
  cases mv with
  | none => rw [(h.nomap rfl).2]; exact nil_look w hT
  | some mb => exact (h.map mb rfl).1.look hT
theorem DIn.lenm (h : DIn w S d dk g tag mv) (ty : TypeId) : (Builtin.len_ #[59] ty #[.map mv]).run Try.prog w = .ok (.int .i64 dk.fs.length) w := by
  cases mv with
  | none => rw [(h.nomap rfl).1]; exact nil_len w ty
  | some mb => exact (h.map mb rfl).1.len ty
end

theorem may_any (s : ByteArray) (w : World) (hs : s.size ≤ 140737488351232) :
    Calls Try.prog 29 #[.string s] w fun e w' => e = .returned (.bool (!badName (toL s))) ∧ w' = w := by
  refine calls_gen fun R hR => ?_
  have hb : badName (toL s) = (s.toList.isEmpty || decide ((s.size : Int) > 100)) := by
    unfold badName; rw [toL_len, toList_toL]
    congr 1
    rw [decide_eq_decide]; omega
  rw [hb] at hR
  clear hb
  go_enter Try.func29, Try.ntmps29
  cases he : s.toList.isEmpty
  · by_cases h : (s.size : Int) ≤ 100
    · go_wp2_with fail
      go_ret
      exact hR _ _ ⟨by rw [he, decide_eq_false (by omega)]; rfl, rfl⟩
    · go_wp2_with fail
      go_ret
      exact hR _ _ ⟨by rw [he, decide_eq_true (by omega)]; rfl, rfl⟩
  · go_wp2_with fail
    go_ret
    exact hR _ _ ⟨by rw [he]; rfl, rfl⟩
theorem modulo_eq (k n : Int) (hn : 0 < n) : -n < k.tmod n ∧ k.tmod n < n ∧ (k.tmod n < 0 → k.tmod n + n = k % n) ∧ (¬ k.tmod n < 0 → k.tmod n = k % n) := by
  have h1 : k.tmod n < n := Int.tmod_lt_of_pos k hn
  have h2 : -n < k.tmod n := by
    have := Int.tmod_lt_of_pos (-k) hn
    rw [Int.neg_tmod] at this; omega
  have h3 : k % n = k.tmod n % n := by
    have := Int.mul_tdiv_add_tmod k n
    conv => lhs; rw [← this, Int.add_comm]
    exact Int.add_mul_emod_self_left _ _ _
  refine ⟨h2, h1, fun h => ?_, fun h => ?_⟩
  · rw [h3, ← Int.add_emod_right, Int.emod_eq_of_lt (by omega) (by omega)]
  · rw [h3, Int.emod_eq_of_lt (by omega) h1]
theorem modulo_any (k n : Int) (hn : 0 < n) (hb : n ≤ 1000000000) (w : World) :
    Calls Try.prog 35 #[.int .i64 k, .int .i64 n] w fun e w' => e = .returned (.int .i64 (k % n)) ∧ w' = w := by
  refine calls_gen fun R hR => ?_
  obtain ⟨h2, h3, h4, h5⟩ := modulo_eq k n hn
  have H4 := Lib.hid h4; have H5 := Lib.hid h5
  clear h4 h5
  by_cases ht : k.tmod n < 0
  · have h6 := Lib.hid (H4.out ht)
    go_enter Try.func35, Try.ntmps35
    go_wp2_with fail
    go_ret
    refine hR _ _ ⟨?_, rfl⟩
    rw [← h6.out]; rfl
  · have h6 := Lib.hid (H5.out ht)
    go_enter Try.func35, Try.ntmps35
    go_wp2_with fail
    go_ret
    refine hR _ _ ⟨?_, rfl⟩
    rw [← h6.out]; rfl

set_option maxHeartbeats 1000000 in
/-- an op begins -/
theorem op_any {w : World} {S : Nat → Prop} {d : Nat} {dk : Dk} {g : Tx → Option Nat} {tag : Nat → Option Tx} {mv : Option Nat} (h : DIn w S d dk g tag mv) (ho : dk.ops ≤ 1000000) :
    Calls Try.prog 28 #[.pointer (some ⟨d, 0, none⟩)] w fun e w' => e = .returned (.bool (!dk.off)) ∧ DIn w' S d dk.tick g tag mv ∧ Keep (fun k => k = d) w w' := by
  refine calls_gen fun R hR => ?_
  have H := Lib.hid h
  have c2 := blk_cell h.blk 2
  have c3 := blk_cell h.blk 3
  have c4 := blk_cell h.blk 4
  have f2 := blk_free h.blk 2
  have f3 := blk_free h.blk 3
  have f4 := blk_free h.blk 4
  simp only [dcells, List.getElem?_toArray, List.getElem?_cons_zero, List.getElem?_cons_succ] at c2 c3 c4
  have hlt := h.lt
  clear h
  obtain ⟨room, fs, ops, lim⟩ := dk
  dsimp only at c2 c3 c4 ho
  go_enter Try.func28, Try.ntmps28
  cases lim with
  | none =>
    simp only [leftV, Option.isSome_none] at c3 c4
    go_wp2_with fail
    go_ret
    have k2 := ((Keep.refl (fun k => k = d) w).set (p := ⟨d, 2, none⟩) rfl (.int .i64 ((ops : Int) + 1))).set (p := ⟨d, 4, none⟩) rfl (.int .i64 (-(ops : Int) - 1))
    refine hR _ _ ⟨rfl, H.out.scal k2 ?_ rfl H.out.ok.tick, k2⟩
    have := blk_set (blk_set H.out.blk 2 (.int .i64 ((ops : Int) + 1))) 4 (.int .i64 (-(ops : Int) - 1))
    have e1 : ((ops + 1 : Nat) : Int) = (ops : Int) + 1 := by omega
    have e2 : -((ops : Int) + 1) = -(ops : Int) - 1 := by omega
    simp only [Dk.tick, dcells, leftV, Option.map_none, Option.isSome_none, e1, e2]
    exact this
  | some v =>
    simp only [leftV, Option.isSome_some] at c3 c4
    cases v with
    | zero =>
      go_wp2_with fail
      go_ret
      have k2 := (Keep.refl (fun k => k = d) w).set (p := ⟨d, 2, none⟩) rfl (.int .i64 ((ops : Int) + 1))
      refine hR _ _ ⟨rfl, H.out.scal k2 ?_ rfl H.out.ok.tick, k2⟩
      have := blk_set H.out.blk 2 (.int .i64 ((ops : Int) + 1))
      have e1 : ((ops + 1 : Nat) : Int) = (ops : Int) + 1 := by omega
      simp only [Dk.tick, dcells, leftV, Option.map_some, Option.isSome_some, e1]
      exact this
    | succ v =>
      have hv := H.out.ok.lim (v + 1) rfl
      have hne : (((v + 1 : Nat) : Int) == 0) = false := by rw [beq_eq_false_iff_ne]; omega
      obtain ⟨n, hn⟩ : ∃ n : Int, ((v + 1 : Nat) : Int) = n := ⟨_, rfl⟩
      have hnv : n - 1 = (v : Int) := by omega
      have hn0 : 0 ≤ n := by omega
      have hn1 : n ≤ 9223372036854775807 := by omega
      rw [hn] at c4 hne
      have HN := Lib.hid hnv
      clear hn hnv hv
      go_wp2_with fail
      go_ret
      have k2 := ((Keep.refl (fun k => k = d) w).set (p := ⟨d, 2, none⟩) rfl (.int .i64 ((ops : Int) + 1))).set (p := ⟨d, 4, none⟩) rfl (.int .i64 (n - 1))
      refine hR _ _ ⟨rfl, H.out.scal k2 ?_ rfl H.out.ok.tick, k2⟩
      have := blk_set (blk_set H.out.blk 2 (.int .i64 ((ops : Int) + 1))) 4 (.int .i64 (n - 1))
      have e1 : ((ops + 1 : Nat) : Int) = (ops : Int) + 1 := by omega
      simp only [Dk.tick, dcells, leftV, Option.map_some, Option.isSome_some, e1, Nat.add_sub_cancel, ← HN.out]
      exact this
end Go.Proofs.Ytlfcbhagbdonhaa.Asc
